/- The walk of slices.Insert at edges, one edge put in. -/
import Derived.Test.YtglhdoibglafbaaU09
import Derived.Deep.AppendSrc
import Derived.Deep.CutBlock
import Derived.Test.YtglhdoibglafbaaU17
namespace Go.Proofs.Ytglhdoibglafbaa
open Go Go.RowKit
set_option maxRecDepth 100000
set_option linter.unusedVariables false
set_option linter.unusedSimpArgs false

theorem zc2 (n : Nat) : (Builtin.zeroCells (#[Value.int .i64 0, Value.int .i64 0] : Array Value) n).size = n * 2 := by simp [Builtin.zeroCells]

set_option maxHeartbeats 2000000 in
theorem insertE_end (es : List (Int × Int)) (x y : Int) (B vb : Nat) (v : Value) (w : World) (ho : w.ownsRow B 28 2 v es.length (pcells es)) (hB : B ≤ w.heap.size) (hm : es.length ≤ 1000000)
    (hv : w.heap[vb]? = some (.cells #[.int .i64 x, .int .i64 y] 28 (0, 0))) :
    Calls Try.prog 86 #[v, .int .i64 es.length, .slice (some ⟨vb, 0, none⟩) 1 1] w (OwnPost B (es ++ [(x, y)]) w) := by
  obtain ⟨A, c, rfl, hc, hr⟩ := own_reads0 ho
  have HO := Lib.hid ho
  have hrv := reads_blk (cs := [.int .i64 x, .int .i64 y]) hv
  have j1 : ((es.length : Int) == (es.length : Int)) = true := by simp
  have j2 : (es.length : Int) ≤ (c : Int) := by omega
  clear ho hr hv
  go_enter Try.func86, Try.ntmps86
  go_wp2_with (first
    | (at_builtin; go_loud (
       refine wpList_app EI_edge rfl (.tmp 23) (.tmp 24) rfl B (.slice A es.length c) es.length (pcells es) rfl HO.out (some ⟨vb, 0, none⟩) 1 1 [.int .i64 x, .int .i64 y] rfl hrv rfl ?_ ?_ ?_ ?_
       · simp [Value.oneCell']
       · omega
       · omega
       intro v1 w1 hown1 hg1 hat1
       have hb1 : Below B w w1 := Below.grown (Below.refl _ _) hg1 hB (fun g hg => (own_lt0 HO.out g hg).1)
       obtain ⟨A1, c1, rfl, hc1, hr1⟩ := own_reads0 hown1)))
  all_goals
    go_ret
    refine ⟨_, rfl, ?_, hb1⟩
    exact own_cast hown1 (Nat.le_refl _) (by simp) (by rw [pcells_append]; rfl)

set_option maxHeartbeats 2000000 in
theorem insertE_room (es : List (Int × Int)) (i : Nat) (x y : Int) (B vb g c : Nat) (w : World) (cur : List Value) (hBg : B ≤ g) (hg : w.heap[g]? = some (.cells cur.toArray 28 (0, 0))) (hcl : cur.length = c * 2) (hct : cur.take (es.length * 2) = pcells es) (hcm : c ≤ maxLen)
    (hB : B ≤ w.heap.size) (hm : es.length ≤ 1000000) (hi : i < es.length) (hroom : es.length + 1 ≤ c) (hvb : vb ≠ g)
    (hv : w.heap[vb]? = some (.cells #[.int .i64 x, .int .i64 y] 28 (0, 0))) :
    Calls Try.prog 86 #[.slice (some ⟨g, 0, none⟩) es.length c, .int .i64 i, .slice (some ⟨vb, 0, none⟩) 1 1] w (OwnPost B (es.take i ++ (x, y) :: es.drop i) w) := by
  obtain ⟨i0, hi0, hz0, hs0, hb0⟩ := info_parts EI_edge.hinfo
  have hsz : ∀ w0 : World, (Go.sizeOf 28).run Try.prog w0 = .ok 2 w0 := fun w0 => by simp [sizeOf, typeInfo, hi0, hs0]
  have hov : ∀ lb cb, (callFunc 103 #[.slice (some ⟨vb, 0, none⟩) 1 1, .slice (some ⟨g, (i + 1) * 2, none⟩) lb cb]).run Try.prog w = .ok (.value (.bool false)) w := fun lb cb => by
    rw [run_callFunc_extern Try.func103 (by kernel_rfl) (by kernel_rfl) (by kernel_rfl) (e := Extern.SlicesOverlaps.overlaps #[23, 23] #[4]) (by kernel_rfl),
      Lib.run_overlaps_apart w 23 4 28 Try.underlying23 2 hsz ⟨vb, 0, none⟩ ⟨g, (i + 1) * 2, none⟩ 1 1 lb cb hvb 28 28 2 (c * 2) (by simp [World.shape?, hv]) (by simp [World.shape?, hg, hcl]) (by omega) (by simp [World.frozen?, hv]) (by simp [World.frozen?, hv])]
    rfl
  have hpl := pcells_length es
  have HPD : Hid (∀ j u, (pcells (es.drop i))[j]? = some u → w.cell? ⟨g, i * 2 + j, none⟩ = some u) := fun j u hj => by
    have h1 : cur[i * 2 + j]? = some u := by
      rw [pcells_drop, List.getElem?_drop, ← hct, List.getElem?_take] at hj
      split at hj
      · exact hj
      · cases hj
    exact blkc0 hg _ _ (List.getElem?_toArray.trans h1)
  have HL2 : Hid ((pcells (es.drop i)).length = (es.length - i) * 2) := by unfold Hid; rw [pcells_length]; simp; omega
  have HPT : Hid (cur.take (i * 2) = pcells (es.take i)) := by
    unfold Hid
    rw [pcells_take, ← hct, List.take_take, Nat.min_eq_left (by omega)]
  have hcm' : c ≤ 9223372036854775807 := by unfold maxLen at hcm; omega
  have HCM := Lib.hid hcm
  have HCL := Lib.hid hcl
  have HG := Lib.hid hg
  have HV := Lib.hid hv
  clear hcm hcl hct hg hv hpl hi0 hz0 hs0 hb0 hsz
  have j1 : ((i : Int) == (es.length : Int)) = false := by simp; omega
  have j1' : ¬ ((i : Int) = (es.length : Int)) := by omega
  have j2 : (i : Int) ≤ (es.length : Int) := by omega
  have j3 : (es.length : Int) + 1 ≤ (c : Int) := by omega
  have j3' : ¬ ((c : Int) < (es.length : Int) + 1) := by omega
  have j4 : ((es.length : Int) + 1).toNat = es.length + 1 := by omega
  have j5 : ((i : Int) + 1).toNat = i + 1 := by omega
  have j6 : (0 : Int) ≤ (i : Int) + 1 := by omega
  have j7 : (0 : Int) ≤ (es.length : Int) + 1 := by omega
  have j8 : ¬ (c = i + 1) := by omega
  have j9 : ¬ (c = i) := by omega
  have k1 : (i : Int) + 1 ≤ (es.length : Int) + 1 := by omega
  have k2 : (i : Int) ≤ (es.length : Int) + 1 := by omega
  have k3 : (i : Int) ≤ (c : Int) := by omega
  go_enter Try.func86, Try.ntmps86
  go_wp2_with (simp only [hov])
  have fin : ∀ (w3 : World) (cur3 : List Value), w3.heap[g]? = some (.cells cur3.toArray 28 (0, 0)) → cur3.length = c * 2 → cur3.take ((es.length + 1) * 2) = pcells (es.take i ++ (x, y) :: es.drop i) → Below B w w3 →
      OwnPost B (es.take i ++ (x, y) :: es.drop i) w (.returned (.slice (some ⟨g, 0, none⟩) (es.length + 1) c)) w3 := fun w3 cur3 h1 h2 h3 h4 => by
    have hl : (es.take i ++ (x, y) :: es.drop i).length = es.length + 1 := by simp; omega
    refine ⟨_, rfl, ?_, h4⟩
    rw [hl]
    exact own_shut hBg h1 hroom HCM.out h2 h3
  have FIN := Lib.hid fin
  clear fin hov
  have u1 : IntKind.i64.wrap ((i : Int) + 1) = (i : Int) + 1 := by rw [IntKind.wrap_i64]; omega
  go_region_law (refine step_copyN EI_edge rfl (.tmp 73) (.tmp 76) rfl g ((i + 1) * 2) (es.length - i) (c - (i + 1)) ⟨g, i * 2, none⟩ (es.length + 1 - i) (c - i) (by simp [Act.eval, Act.put]) (by simp [Act.eval, Act.put]) cur _ (pcells (es.drop i)) (es.length - i) ?_ HL2.out HG.out ?_ ?_ (pcells_one _) ?_
                 · simp only [Nat.min_def]; split <;> omega
                 · intro j u hj
                   rw [Go.WideShapes.add_plain]
                   exact HPD.out j u hj
                 · rw [HL2.out, HCL.out]; omega
                 intro w2 hg2 hgr2)
  all_goals clear u1
  all_goals
    have hcl2 : (cur.take ((i + 1) * 2) ++ pcells (es.drop i) ++ cur.drop ((i + 1) * 2 + (pcells (es.drop i)).length)).length = c * 2 := by
      rw [List.length_append, List.length_append, HL2.out, List.length_take, List.length_drop, HCL.out]; omega
    have HT2 : Hid (∀ a b : Value, ((cur.take ((i + 1) * 2) ++ pcells (es.drop i) ++ cur.drop ((i + 1) * 2 + (pcells (es.drop i)).length)).take (i * 2) ++ [a, b] ++ (cur.take ((i + 1) * 2) ++ pcells (es.drop i) ++ cur.drop ((i + 1) * 2 + (pcells (es.drop i)).length)).drop (i * 2 + 2)).take ((es.length + 1) * 2) = pcells (es.take i) ++ [a, b] ++ pcells (es.drop i)) := by
      intro a b
      have e1 : (cur.take ((i + 1) * 2) ++ pcells (es.drop i) ++ cur.drop ((i + 1) * 2 + (pcells (es.drop i)).length)).take (i * 2) = pcells (es.take i) := by
        rw [List.append_assoc, List.take_append_of_le_length (by rw [List.length_take, HCL.out]; omega), List.take_take, Nat.min_eq_left (by omega), HPT.out]
      have e2 : (cur.take ((i + 1) * 2) ++ pcells (es.drop i) ++ cur.drop ((i + 1) * 2 + (pcells (es.drop i)).length)).drop (i * 2 + 2) = pcells (es.drop i) ++ cur.drop ((i + 1) * 2 + (pcells (es.drop i)).length) := by
        rw [List.append_assoc, List.drop_append_of_le_length (by rw [List.length_take, HCL.out]; omega), List.drop_of_length_le (by rw [List.length_take]; omega), List.nil_append]
      have hl1 : (pcells (es.take i)).length = i * 2 := by rw [pcells_length]; simp; omega
      rw [e1, e2, ← List.append_assoc, List.take_append_of_le_length (by simp [hl1, HL2.out]; omega), List.take_of_length_le (by simp [hl1, HL2.out]; omega)]
    generalize cur.take ((i + 1) * 2) ++ pcells (es.drop i) ++ cur.drop ((i + 1) * 2 + (pcells (es.drop i)).length) = cur2 at hg2 hcl2 HT2
    have HG2 := Lib.hid hg2
    have HC2 := Lib.hid hcl2
    have hv2 : w2.heap[vb]? = some (.cells #[.int .i64 x, .int .i64 y] 28 (0, 0)) := (hgr2.block vb (heap_lt0 HV.out) (by simpa using hvb)).trans HV.out
    have HV2 := Lib.hid hv2
    clear hg2 hcl2 hv2
    go_wp2_with (first
      | ((with_reducible refine wpList_copyN EI_edge rfl (.tmp 80) (.tmp 81) rfl g (i * 2) (es.length + 1 - i) (c - i) ⟨vb, 0, none⟩ 1 1 ?_ ?_ cur2 _ [.int .i64 x, .int .i64 y] 1 ?_ rfl HG2.out ?_ ?_ ?_ ?_)
         · simp [Act.eval]
         · simp [Act.eval]
         · simp only [Nat.min_def]; split <;> omega
         · intro j u hj
           rw [Go.WideShapes.add_plain, Nat.zero_add]
           exact blkc0 HV2.out _ _ (List.getElem?_toArray.trans hj)
         · rw [HC2.out]; simp; omega
         · simp [Value.oneCell']
         intro w3 hg3 hgr3
         have HG3 := Lib.hid hg3
         clear hg3))
    go_ret
    refine FIN.out _ _ HG3.out ?_ ?_ ?_
    · rw [List.length_append, List.length_append, List.length_take, List.length_drop, HC2.out]; simp; omega
    · have := HT2.out (.int .i64 x) (.int .i64 y)
      rw [pcells_append, show pcells ((x, y) :: es.drop i) = [.int .i64 x, .int .i64 y] ++ pcells (es.drop i) from rfl, ← List.append_assoc]
      exact this
    · exact Below.grown (Below.grown (by (repeat (first | with_reducible exact Below.refl _ _ | with_reducible assumption | with_reducible refine below_drewN0 ?_ _ | with_reducible refine Below.drew ?_ | with_reducible refine Below.alloc ?_ ?_ _ | with_reducible refine Below.setCell ?_ ?_ _ | go_size | exact Below.size (by assumption)))) hgr2 (by simpa using hB) (fun k hk => by cases hk; exact hBg)) hgr3 (by have h9 := hgr2.size; simp at h9; omega) (fun k hk => by cases hk; exact hBg)

theorem zero2 (n : Nat) : (Builtin.zeroCells (#[Value.int .i64 0, Value.int .i64 0] : Array Value) n).toList.length = n * 2 := by simp [Builtin.zeroCells]

set_option maxHeartbeats 2000000 in
theorem insertE_grow (es : List (Int × Int)) (i : Nat) (x y : Int) (B vb g c : Nat) (w : World) (cur : List Value) (hBg : B ≤ g) (hg : w.heap[g]? = some (.cells cur.toArray 28 (0, 0))) (hcl : cur.length = c * 2) (hct : cur.take (es.length * 2) = pcells es)
    (hB : B ≤ w.heap.size) (hm : es.length ≤ 1000000) (hi : i < es.length) (hnc : es.length ≤ c) (hroom : c < es.length + 1)
    (hv : w.heap[vb]? = some (.cells #[.int .i64 x, .int .i64 y] 28 (0, 0))) :
    Calls Try.prog 86 #[.slice (some ⟨g, 0, none⟩) es.length c, .int .i64 i, .slice (some ⟨vb, 0, none⟩) 1 1] w (OwnPost B (es.take i ++ (x, y) :: es.drop i) w) := by
  obtain rfl : c = es.length := by omega
  obtain ⟨i0, hi0, hz0, hs0, hb0⟩ := info_parts EI_edge.hinfo
  have hpl := pcells_length es
  have hgl := heap_lt0 hg
  have hvl := heap_lt0 hv
  have HPD : Hid (∀ j u, (pcells (es.drop i))[j]? = some u → w.cell? ⟨g, i * 2 + j, none⟩ = some u) := fun j u hj => by
    have h1 : cur[i * 2 + j]? = some u := by
      rw [pcells_drop, List.getElem?_drop, ← hct, List.getElem?_take] at hj
      split at hj
      · exact hj
      · cases hj
    exact blkc0 hg _ _ (List.getElem?_toArray.trans h1)
  have HL2 : Hid ((pcells (es.drop i)).length = (es.length - i) * 2) := by unfold Hid; rw [pcells_length]; simp; omega
  have HL1 : Hid ((pcells (es.take i)).length = i * 2) := by unfold Hid; rw [pcells_length]; simp; omega
  have hold : (Builtin.firstCells i0.size i (.slice (some ⟨g, 0, none⟩) i es.length)).run Try.prog w.drew = .ok (pcells (es.take i)).toArray w.drew := by
    rw [hs0]
    refine run_firstCells_some w.drew 2 i ⟨g, 0, none⟩ i es.length (pcells (es.take i)) HL1.out (fun j u hj => ?_)
    rw [Go.WideShapes.add_plain, Nat.zero_add]
    have h1 : cur[j]? = some u := by
      rw [pcells_take, ← hct, List.take_take, Nat.min_eq_left (by omega), List.getElem?_take] at hj
      split at hj
      · exact hj
      · cases hj
    exact blkc0 hg _ _ (List.getElem?_toArray.trans h1)
  have hik : i + (es.length + 1 - i) = es.length + 1 := by omega
  have hkk : (es.length : Int) + 1 - (i : Int) = ((es.length + 1 - i : Nat) : Int) := by omega
  obtain ⟨G, hG⟩ : ∃ G, G = grownCap w (es.length + 1) es.length 28 := ⟨_, rfl⟩
  obtain ⟨cur1, hcur1⟩ : ∃ cur1 : List Value, cur1 = pcells (es.take i) ++ (Builtin.zeroCells (#[Value.int .i64 0, Value.int .i64 0] : Array Value) (es.length + 1 - i)).toList ++ (Builtin.zeroCells (#[Value.int .i64 0, Value.int .i64 0] : Array Value) (G - (es.length + 1))).toList := ⟨_, rfl⟩
  have hrz : ∀ ty, (Builtin.append_ #[23, 3] ty #[.slice (some ⟨g, 0, none⟩) i es.length, .int .i64 ((es.length : Int) + 1 - (i : Int))]).run Try.prog w = .ok (.slice (some ⟨w.heap.size, 0, none⟩) (es.length + 1) G) (w.drew.alloc (.cells cur1.toArray 28)) := fun ty => by
    have h := Lib.run_append_grow_zeros w 23 3 ty 28 i0 _ .i64 .i64 Try.underlying23 Try.underlying3 hi0 hz0 (some ⟨g, 0, none⟩) i es.length (pcells (es.take i)) hold (es.length + 1 - i) (by omega) (by rw [hs0]; omega) (by omega) (by omega) (by rw [hb0]; omega) (by rw [hb0, hik]; exact growslice_fits (by omega) (by omega))
    rw [hik] at h
    have harr : (pcells (es.take i)).toArray ++ Builtin.zeroCells (Value.agg #[Value.int .i64 0, Value.int .i64 0]).cells (es.length + 1 - i) ++ Builtin.zeroCells (Value.agg #[Value.int .i64 0, Value.int .i64 0]).cells (G - (es.length + 1)) = cur1.toArray := by
      rw [hcur1]
      apply Array.toList_inj.1
      simp [Value.cells]
    rw [hkk, h, ← hG, harr]
  have hGn : es.length + 1 ≤ G := by rw [hG]; exact grownCap_ge w _ _ _
  have hGm : G ≤ maxLen := by
    have := grownCap_le_maxLen w (es.length + 1) es.length 28 (by unfold maxLen; omega)
    rwa [← hG] at this
  have hl1 : cur1.length = G * 2 := by rw [hcur1, List.length_append, List.length_append, HL1.out, zero2, zero2]; omega
  have ht1 : cur1.take (i * 2) = pcells (es.take i) := by
    rw [hcur1, List.append_assoc, List.take_append_of_le_length (by rw [HL1.out]; omega), List.take_of_length_le (by rw [HL1.out]; omega)]
  have hWg : (w.drew.alloc (.cells cur1.toArray 28)).heap[w.heap.size]? = some (.cells cur1.toArray 28 (0, 0)) := heap_alloc_new w.drew _
  have hvW : (w.drew.alloc (.cells cur1.toArray 28)).heap[vb]? = some (.cells #[.int .i64 x, .int .i64 y] 28 (0, 0)) := heap_old (w := w.drew) hv
  have hbW : Below w.heap.size w (w.drew.alloc (.cells cur1.toArray 28)) := Below.alloc (Below.drew (Below.refl _ _)) (Nat.le_refl _) _
  have hWs : (w.drew.alloc (.cells cur1.toArray 28)).heap.size = w.heap.size + 1 := World.size_alloc w.drew _
  have HPD2 : Hid (∀ j u, (pcells (es.drop i))[j]? = some u → (w.drew.alloc (.cells cur1.toArray 28)).cell? ⟨g, i * 2 + j, none⟩ = some u) := fun j u hj => (hbW.cell (p := ⟨g, i * 2 + j, none⟩) hgl).trans (HPD.out j u hj)
  generalize w.drew.alloc (.cells cur1.toArray 28) = W1 at hrz hWg hvW hbW hWs HPD2
  have HWG := Lib.hid hWg
  have HVW := Lib.hid hvW
  have HL := Lib.hid hl1
  have HT := Lib.hid ht1
  have HGM := Lib.hid hGm
  have HWS := Lib.hid hWs
  have hrz' := hrz
  clear hg hcl hct hv hpl hold hik hkk hG hcur1 hWg hvW hl1 ht1 hGm hWs hi0 hz0 hs0 hb0 HPD hrz
  have hGi : G ≤ 9223372036854775807 := by have := HGM.out; unfold maxLen at this; omega
  have fin : ∀ (w3 : World) (cur3 : List Value), w3.heap[w.heap.size]? = some (.cells cur3.toArray 28 (0, 0)) → cur3.length = G * 2 → cur3.take ((es.length + 1) * 2) = pcells (es.take i ++ (x, y) :: es.drop i) → Below B w w3 →
      OwnPost B (es.take i ++ (x, y) :: es.drop i) w (.returned (.slice (some ⟨w.heap.size, 0, none⟩) (es.length + 1) G)) w3 := fun w3 cur3 h1 h2 h3 h4 => by
    have hl : (es.take i ++ (x, y) :: es.drop i).length = es.length + 1 := by simp; omega
    refine ⟨_, rfl, ?_, h4⟩
    rw [hl]
    exact own_shut hB h1 hGn HGM.out h2 h3
  have FIN := Lib.hid fin
  clear fin
  have j1 : ((i : Int) == (es.length : Int)) = false := by simp; omega
  have j1' : ¬ ((i : Int) = (es.length : Int)) := by omega
  have j2 : (i : Int) ≤ (es.length : Int) := by omega
  have j3 : (es.length : Int) < (es.length : Int) + 1 := by omega
  have j5 : ((i : Int) + 1).toNat = i + 1 := by omega
  have j6 : (0 : Int) ≤ (i : Int) + 1 := by omega
  have j8 : ¬ (G = i + 1) := by omega
  have j9 : ¬ (G = i) := by omega
  have k0 : ¬ (es.length = i) := by omega
  have k1 : (i : Int) + 1 ≤ (es.length : Int) + 1 := by omega
  have k2 : (i : Int) ≤ (es.length : Int) + 1 := by omega
  have k3 : (i : Int) ≤ (G : Int) := by omega
  have k4 : ((es.length + 1 : Nat) : Int) = (es.length : Int) + 1 := by omega
  go_enter Try.func86, Try.ntmps86
  go_upto_region 11 with (first
    | (at_builtin; go_loud (refine Lib.wpList_append_run _ rfl (.tmp 34) (.tmp 39) _ _ rfl _ _ rfl rfl _ _ (hrz' _) ?_))
    | ((with_reducible refine wpList_copyN EI_edge rfl (.tmp 43) (.tmp 44) rfl w.heap.size (i * 2) (es.length + 1 - i) (G - i) ⟨vb, 0, none⟩ 1 1 ?_ ?_ cur1 _ [.int .i64 x, .int .i64 y] 1 ?_ rfl HWG.out ?_ ?_ ?_ ?_)
       · simp [Act.eval]
       · simp [Act.eval]
       · simp only [Nat.min_def]; split <;> omega
       · intro j u hj
         rw [Go.WideShapes.add_plain, Nat.zero_add]
         exact blkc0 HVW.out _ _ (List.getElem?_toArray.trans hj)
       · rw [HL.out]; simp; omega
       · simp [Value.oneCell']
       intro w2 hg2 hgr2
       have HG2 := Lib.hid hg2
       clear hg2))
  have u1 : IntKind.i64.wrap ((i : Int) + 1) = (i : Int) + 1 := by rw [IntKind.wrap_i64]; omega
  have hgne : g ≠ w.heap.size := by omega
  have hcl2 : (cur1.take (i * 2) ++ [Value.int .i64 x, Value.int .i64 y] ++ cur1.drop (i * 2 + [Value.int .i64 x, Value.int .i64 y].length)).length = G * 2 := by
    rw [List.length_append, List.length_append, List.length_take, List.length_drop, HL.out]; simp; omega
  have ht2 : (cur1.take (i * 2) ++ [Value.int .i64 x, Value.int .i64 y] ++ cur1.drop (i * 2 + [Value.int .i64 x, Value.int .i64 y].length)).take ((i + 1) * 2) = pcells (es.take i) ++ [Value.int .i64 x, Value.int .i64 y] := by
    rw [HT.out, List.take_append_of_le_length (by simp [HL1.out]; omega), List.take_of_length_le (by simp [HL1.out]; omega)]
  have HG2' := HG2.out
  generalize cur1.take (i * 2) ++ [Value.int .i64 x, Value.int .i64 y] ++ cur1.drop (i * 2 + [Value.int .i64 x, Value.int .i64 y].length) = cur2 at HG2' hcl2 ht2
  clear HG2
  have HG2 := Lib.hid HG2'
  have HC2 := Lib.hid hcl2
  have HT2 := Lib.hid ht2
  clear HG2' hcl2 ht2
  have hs2 := hgr2.size
  go_region_law (refine step_copyN EI_edge rfl (.tmp 50) (.tmp 53) rfl w.heap.size ((i + 1) * 2) (es.length - i) (G - (i + 1)) ⟨g, i * 2, none⟩ (es.length - i) (es.length - i) (by simp [Act.eval, Act.put]) (by simp [Act.eval, Act.put]) cur2 _ (pcells (es.drop i)) (es.length - i) ?_ HL2.out HG2.out ?_ ?_ (pcells_one _) ?_
                 · simp only [Nat.min_def]; split <;> omega
                 · intro j u hj
                   rw [Go.WideShapes.add_plain]
                   exact (World.cell?_of_block (a := ⟨g, i * 2 + j, none⟩) (w := W1) (hgr2.block g (by have := HWS.out; omega) (by simpa using hgne))).trans (HPD2.out j u hj)
                 · rw [HL2.out, HC2.out]; omega
                 intro w3 hg3 hgr3
                 have HG3 := Lib.hid hg3
                 clear hg3)
  all_goals
    clear u1
    go_wp2_with fail
    go_ret
    refine FIN.out _ _ HG3.out ?_ ?_ ?_
    · rw [List.length_append, List.length_append, HL2.out, List.length_take, List.length_drop, HC2.out]; omega
    · rw [HT2.out, List.take_append_of_le_length (by simp [HL1.out, HL2.out]; omega), List.take_of_length_le (by simp [HL1.out, HL2.out]; omega), pcells_append, show pcells ((x, y) :: es.drop i) = [.int .i64 x, .int .i64 y] ++ pcells (es.drop i) from rfl, ← List.append_assoc]
    · have h8 := HWS.out
      have hbB : Below B w W1 := hbW.mono hB
      exact Below.grown (Below.drew (Below.grown hbB hgr2 (by omega) (fun k hk => by cases hk; exact hB))) hgr3 (by have h9 : w2.drew.heap.size = w2.heap.size := rfl; omega) (fun k hk => by cases hk; exact hB)

theorem insertE (es : List (Int × Int)) (i : Nat) (x y : Int) (B vb : Nat) (v : Value) (w : World) (ho : w.ownsRow B 28 2 v es.length (pcells es)) (hB : B ≤ w.heap.size) (hm : es.length ≤ 1000000) (hi : i ≤ es.length) (hvb : v.ownBlock ≠ some vb)
    (hv : w.heap[vb]? = some (.cells #[.int .i64 x, .int .i64 y] 28 (0, 0))) :
    Calls Try.prog 86 #[v, .int .i64 i, .slice (some ⟨vb, 0, none⟩) 1 1] w (OwnPost B (es.take i ++ (x, y) :: es.drop i) w) := by
  by_cases hie : i = es.length
  · subst hie
    rw [List.take_length, List.drop_length]
    exact insertE_end es x y B vb v w ho hB hm hv
  · obtain ⟨g, c, cur, rfl, hBg, hgl, hg, hnc, hcm, hcl, hct⟩ := own_open ho (by omega)
    by_cases hroom : es.length + 1 ≤ c
    · exact insertE_room es i x y B vb g c w cur hBg hg hcl hct hcm hB hm (by omega) hroom (fun h => hvb (by rw [h]; rfl)) hv
    · exact insertE_grow es i x y B vb g c w cur hBg hg hcl hct hB hm (by omega) hnc (by omega) hv

end Go.Proofs.Ytglhdoibglafbaa

/- Degrees in a row of edges: what they sum up to; neighbours rise (no program in sight). -/
namespace Go.Proofs.Ytglhdoibglafbaa
set_option maxRecDepth 100000
set_option linter.unusedVariables false
set_option linter.unusedSimpArgs false

def degSum (es : List (Int × Int)) : Nat → Nat
  | 0 => 0
  | k + 1 => degSum es k + (nearL es k).length
def oneAt (a : Int) : Nat → Nat
  | 0 => 0
  | k + 1 => oneAt a k + if a = (k : Int) then 1 else 0
theorem oneAt_eq (a : Int) (k : Nat) : oneAt a k = if 0 ≤ a ∧ a < (k : Int) then 1 else 0 := by
  induction k with
  | zero => unfold oneAt; rw [if_neg (by omega)]
  | succ k ih =>
    unfold oneAt; rw [ih]
    by_cases h1 : a = (k : Int)
    · rw [if_neg (by omega), if_pos h1, if_pos (by omega)]
    · by_cases h2 : 0 ≤ a ∧ a < (k : Int)
      · rw [if_pos h2, if_neg h1, if_pos (by omega)]
      · rw [if_neg h2, if_neg h1, if_neg (by omega)]
theorem nearL_cons (e : Int × Int) (es : List (Int × Int)) (v : Int) : (nearL (e :: es) v).length = (nearL es v).length + ((if e.2 = v then 1 else 0) + (if e.1 = v then 1 else 0)) := by
  unfold nearL lowL highL
  by_cases h1 : e.2 = v <;> by_cases h2 : e.1 = v <;> simp [h1, h2] <;> omega
theorem degSum_cons (e : Int × Int) (es : List (Int × Int)) (k : Nat) : degSum (e :: es) k = degSum es k + (oneAt e.2 k + oneAt e.1 k) := by
  induction k with
  | zero => rfl
  | succ k ih =>
    unfold degSum oneAt
    rw [ih, nearL_cons]
    omega
theorem degSum_nil (k : Nat) : degSum [] k = 0 := by
  induction k with
  | zero => rfl
  | succ k ih => unfold degSum; rw [ih]; rfl
theorem degSum_all (es : List (Int × Int)) (n : Nat) (h : ∀ e ∈ es, 0 ≤ e.1 ∧ e.1 < (n : Int) ∧ 0 ≤ e.2 ∧ e.2 < (n : Int)) : degSum es n = 2 * es.length := by
  induction es with
  | nil => rw [degSum_nil]; rfl
  | cons e es ih =>
    have h1 := h e (by simp)
    rw [degSum_cons, ih (fun x hx => h x (List.mem_cons_of_mem _ hx)), oneAt_eq, oneAt_eq, if_pos (by omega), if_pos (by omega), List.length_cons]
    omega
theorem degSum_le (es : List (Int × Int)) (k : Nat) : degSum es k ≤ k * (es.length + es.length) := by
  induction k with
  | zero => simp [degSum]
  | succ k ih =>
    have := nearL_length es k
    unfold degSum
    rw [Nat.succ_mul]
    omega

theorem lowL_rises {n : Int} {es : List (Int × Int)} (h : RightP n es) (v : Int) : (lowL es v).Pairwise (· < ·) := by
  unfold lowL
  rw [List.pairwise_map, List.pairwise_filter]
  refine h.inc.imp ?_
  intro a b hab ha hb
  simp at ha hb
  unfold LtE at hab
  omega
theorem highL_rises {n : Int} {es : List (Int × Int)} (h : RightP n es) (v : Int) : (highL es v).Pairwise (· < ·) := by
  unfold highL
  rw [List.pairwise_map, List.pairwise_filter]
  refine h.inc.imp ?_
  intro a b hab ha hb
  simp at ha hb
  unfold LtE at hab
  omega
theorem nearL_rises {n : Int} {es : List (Int × Int)} (h : RightP n es) (v : Int) : (nearL es v).Pairwise (· < ·) := by
  unfold nearL
  rw [List.pairwise_append]
  refine ⟨lowL_rises h v, highL_rises h v, fun a ha b hb => ?_⟩
  have h1 := h.ok _ (mem_lowL.1 ha)
  have h2 := h.ok _ (mem_highL.1 hb)
  simp at h1 h2
  omega
theorem findE_at {n : Int} {es : List (Int × Int)} (h : RightP n es) (k : Nat) (e : Int × Int) (hk : es[k]? = some e) : findE es e = k := by
  refine findE_yes es e k hk fun j hj he => ?_
  have := List.pairwise_iff_getElem.1 h.inc j k (List.getElem?_eq_some_iff.1 he).1 (List.getElem?_eq_some_iff.1 hk).1 hj
  rw [(List.getElem?_eq_some_iff.1 he).2, (List.getElem?_eq_some_iff.1 hk).2] at this
  exact LtE.irrefl e this
theorem index_at {n : Int} {es : List (Int × Int)} (h : RightP n es) (k : Nat) (x y : Int) (hk : es[k]? = some (x, y)) : indexB n es y x = k := by
  have hlt := (h.ok _ (List.mem_of_getElem? hk)).2.1
  simp at hlt
  unfold indexB
  rw [if_pos ((right_iff _ _).2 h), show min y x = x by omega, show max y x = y by omega]
  exact findE_at h k _ hk
end Go.Proofs.Ytglhdoibglafbaa

/- What Add and Remove make of a row of edges (no program in sight). -/
namespace Go.Proofs.Ytglhdoibglafbaa
set_option maxRecDepth 100000
set_option linter.unusedVariables false
set_option linter.unusedSimpArgs false

theorem there_isB (n a b : Int) : (decide (0 ≤ min a b) && decide (max a b < n)) = (isB n a && isB n b) := by
  unfold isB
  rw [Bool.eq_iff_iff]
  simp
  omega
theorem putK_lb {n : Int} {es : List (Int × Int)} (h : RightP n es) {e : Int × Int} (hn : e ∉ es) {p : Nat} (hp : p ≤ es.length) (k1 : ∀ j d, j < p → es[j]? = some d → LtE d e) (k2 : ∀ j d, p ≤ j → es[j]? = some d → ¬ LtE d e) :
    ∀ m, p ≤ m → m ≤ es.length → putK es e m = p := by
  intro m
  induction m with
  | zero => intro h1 h2; have : p = 0 := by omega
            subst this; rfl
  | succ m ih =>
    intro h1 h2
    unfold putK
    obtain ⟨d, hd⟩ : ∃ d, es[m]? = some d := ⟨es[m], by simp⟩
    rw [hd]
    simp only
    by_cases hpm : p ≤ m
    · have hlt : LtE e d := by
        rcases LtE.or (k2 m d hpm hd) with h3 | h3
        · exact absurd (h3 ▸ List.mem_of_getElem? hd) hn
        · exact h3
      rw [if_pos ((ltE_iff e d).2 hlt)]
      exact ih hpm (by omega)
    · have : p = m + 1 := by omega
      rw [if_neg]
      · exact this.symm
      · intro hh
        exact LtE.irrefl e (((ltE_iff e d).1 hh).trans (k1 m d (by omega) hd))
theorem putE_at {n : Int} {es : List (Int × Int)} (h : RightP n es) {e : Int × Int} (hn : e ∉ es) {p : Nat} (hp : p ≤ es.length) (k1 : ∀ j d, j < p → es[j]? = some d → LtE d e) (k2 : ∀ j d, p ≤ j → es[j]? = some d → ¬ LtE d e) :
    putE es e = es.take p ++ e :: es.drop p := by
  unfold putE
  rw [putK_lb h hn hp k1 k2 es.length hp (Nat.le_refl _)]

def rmErr (n : Int) (es : List (Int × Int)) (a b : Int) : Int :=
  if rightB n es = false then 3 else if isB n a = false then 4 else if isB n b = false then 4 else if indexB n es a b < 0 then 7 else 0
def rmL (n : Int) (es : List (Int × Int)) (a b : Int) : List (Int × Int) := es.take (indexB n es a b).toNat ++ es.drop ((indexB n es a b).toNat + 1)
theorem findE_nat (es : List (Int × Int)) (e : Int × Int) : findE es e = -1 ∨ ∃ k : Nat, findE es e = k ∧ k < es.length := by
  unfold findE
  cases h : es.findIdx? (fun x => decide (x = e)) with
  | none => exact .inl rfl
  | some i =>
    obtain ⟨hi, _⟩ := List.findIdx?_eq_some_iff_getElem.1 h
    exact .inr ⟨i, rfl, hi⟩
theorem index_nat (n : Int) (es : List (Int × Int)) (a b : Int) : indexB n es a b = -1 ∨ ∃ k : Nat, indexB n es a b = k ∧ k < es.length := by
  unfold indexB
  split
  · exact findE_nat es _
  · exact .inl rfl
end Go.Proofs.Ytglhdoibglafbaa
