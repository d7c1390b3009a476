/- Walks of slices' Clone, Delete, Insert at edges. -/
import Derived.Test.YtglhdoibglafbaaU02
import Derived.Test.YtglhdoibglafbaaU05
import Derived.Deep.RegionLaw
import Derived.WalkSpells
import Derived.Lib.SliceRun
namespace Go.Proofs.Ytglhdoibglafbaa
open Go Go.RowKit
set_option maxRecDepth 100000
set_option linter.unusedVariables false
set_option linter.unusedSimpArgs false

def OwnPost (B : Nat) (es : List (Int × Int)) (w : World) (e : Ending) (w' : World) : Prop :=
  ∃ v, e = .returned v ∧ w'.ownsRow B 28 2 v es.length (pcells es) ∧ Below B w w'

theorem cloneE (es : List (Int × Int)) (A : Option Addr) (c : Nat) (w : World) (hr : Reads w A (pcells es)) (hc : es.length ≤ c) (hm : es.length ≤ 1000000) :
    Calls Try.prog 87 #[.slice A es.length c] w (OwnPost w.heap.size es w) := by
  cases A with
  | none =>
    have h0 : es = [] := by
      rcases hr with h | ⟨b, o, h, _⟩
      · have := pcells_length es; rw [h] at this; simp at this; exact List.eq_nil_of_length_eq_zero (by omega)
      · cases h
    subst h0
    have hnl : ∀ w0 : World, (binOp .eql 23 (.slice none 0 c) (.slice none 0 0)).run Try.prog w0 = .ok (.bool true) w0 := fun w0 => by
      rw [Lib.run_eql_slice_nil w0 23 28 _ _ _ _ _ Try.underlying23]; rfl
    simp only [List.length_nil]
    go_enter Try.func87, Try.ntmps87
    go_wp2_with fail
    go_ret
    exact ⟨_, rfl, own_nil0 _ _ _ _, Below.refl _ _⟩
  | some ad =>
    have hpl := Lib.hid (pcells_length es)
    have hnl : ∀ w0 : World, (binOp .eql 23 (.slice (some ad) es.length c) (.slice none 0 0)).run Try.prog w0 = .ok (.bool false) w0 := fun w0 => by
      rw [Lib.run_eql_slice_nil w0 23 28 _ _ _ _ _ Try.underlying23]; rfl
    go_enter Try.func87, Try.ntmps87
    go_wp2_with (first
      | (at_builtin; go_loud (
         refine wpList_app EI_edge rfl (.tmp 5) (.tmp 6) rfl w.heap.size (.slice (some ⟨w.heap.size, 0, none⟩) 0 0) 0 [] rfl ?_ (some ad) es.length c (pcells es) rfl ?_ ?_ (pcells_one es) ?_ ?_ ?_
         · exact own_shut (cur := []) (Nat.le_refl _) (heap_alloc_new w _) (Nat.le_refl _) (by decide) (by simp) (by simp)
         · exact hr.below (by (repeat (first | with_reducible exact Below.refl _ _ | with_reducible assumption | with_reducible refine below_drewN0 ?_ _ | with_reducible refine Below.drew ?_ | with_reducible refine Below.alloc ?_ ?_ _ | with_reducible refine Below.setCell ?_ ?_ _ | go_size | exact Below.size (by assumption))))
         · rw [hpl.out]; omega
         · omega
         · go_size
         intro v1 w1 hown1 hg1 hat1
         have hb1 : Below w.heap.size w w1 := below_app (by (repeat (first | with_reducible exact Below.refl _ _ | with_reducible assumption | with_reducible refine below_drewN0 ?_ _ | with_reducible refine Below.drew ?_ | with_reducible refine Below.alloc ?_ ?_ _ | with_reducible refine Below.setCell ?_ ?_ _ | go_size | exact Below.size (by assumption)))) hg1 (by go_size) (fun g hg => by simp [Value.ownBlock] at hg; omega)
         obtain ⟨A1, c1, rfl, hc1, hr1⟩ := own_reads0 hown1
         simp only [Nat.zero_add, List.nil_append] at hown1)))
    go_ret
    exact ⟨_, rfl, hown1, hb1⟩

theorem run_clear1 (w : World) (ty : TypeId) (g o c : Nat) (cur : List Value) (T : TypeId) (hg : w.heap[g]? = some (.cells cur.toArray T (0, 0))) (hfit : o + 2 ≤ cur.length) :
    (Builtin.clear_ #[23] ty #[.slice (some ⟨g, o, none⟩) 1 c]).run Try.prog w = .ok (.tuple #[]) (w.setRow g (cur.take o ++ [Value.int .i64 0, Value.int .i64 0] ++ cur.drop (o + 2)).toArray) := by
  obtain ⟨i, hi, hz, hsize, hbytes⟩ := info_parts EI_edge.hinfo
  have hst := run_storeCells_at Try.prog g o T [.int .i64 0, .int .i64 0] 0 cur.toArray w hg (by simpa using hfit) (by simp [Value.oneCell'])
  simp only [Nat.add_zero] at hst
  have hzc : (Builtin.zeroCells (#[.int .i64 0, .int .i64 0] : Array Value) 1).toList = [.int .i64 0, .int .i64 0] := by
    apply List.ext_getElem
    · simp [Builtin.zeroCells]
    · intro i h1 h2
      have h3 : i < 2 := by simpa using h2
      match i, h3 with
      | 0, _ => simp [Builtin.zeroCells]
      | 1, _ => simp [Builtin.zeroCells]
  have hzv : ∀ w0 : World, (zeroValue 28).run Try.prog w0 = .ok (.agg #[.int .i64 0, .int .i64 0]) w0 := fun w0 => by
    simp [zeroValue, typeInfo, hi, hz]
  simp [Builtin.clear_, run_underlying Try.underlying23, hzv, Value.cells, hzc, hst]

theorem wpList_clear1 {w : World} {ops : Array Oper} {rest : List Oper} {o : Oper} {a : Act} {Q : Exit → Act → World → Prop} (hgd : o.guard = none) (s : Operand)
    (ho : o.op = .call { callee := .builtin .clear, args := #[s], argTypes := #[23] })
    (g off c : Nat) (hs : a.eval s = .slice (some ⟨g, off, none⟩) 1 c) (cur : List Value) (T : TypeId) (hg : w.heap[g]? = some (.cells cur.toArray T (0, 0))) (hfit : off + 2 ≤ cur.length)
    (h : ∀ w', w'.heap[g]? = some (.cells (cur.take off ++ [Value.int .i64 0, Value.int .i64 0] ++ cur.drop (off + 2)).toArray T (0, 0)) → w.grownBy w' (some g) → wpList Try.prog ops Q rest (a.put o.dst (.tuple #[])) w') : wpList Try.prog ops Q (o :: rest) a w :=
  wpList_plain hgd fun _ hK => by
    have hrun := run_clear1 w o.type g off c cur T hg hfit
    unfold Oper.wp execOp
    simp only [ho, resolve, invoke, builtin, Sem.run_bind, Sem.run_pure, Result.andThen_ok, List.map_toArray, List.map_cons, List.map_nil, hs, hrun]
    exact hK _ _ (h _ (setRow_heap w g cur.toArray _ T _ hg) ⟨rfl, rfl, rfl, by simp [World.setRow], fun k hk hne => setRow_other w g k _ (fun e => hne (by simp [e]))⟩)

set_option maxHeartbeats 2000000 in
theorem deleteE_in (es : List (Int × Int)) (i : Nat) (B : Nat) (v : Value) (w : World) (ho : w.ownsRow B 28 2 v es.length (pcells es)) (hi : i < es.length) (hroom : ∀ A c, v = .slice A es.length c → c ≠ i + 1) (hm : es.length ≤ 1000000) :
    Calls Try.prog 90 #[v, .int .i64 i, .int .i64 ((i : Int) + 1)] w (OwnPost B (es.take i ++ es.drop (i + 1)) w) := by
  obtain ⟨g, c, cur, rfl, hBg, hgl, hg, hnc, hcm, hcl, hct⟩ := own_open ho (by omega)
  have hpl := Lib.hid (pcells_length es)
  have hcm' : c ≤ 9223372036854775807 := by unfold maxLen at hcm; omega
  have HCM := Lib.hid hcm
  have HCL := Lib.hid hcl
  have HCT := Lib.hid hct
  have HG := Lib.hid hg
  have hrd := (own_reads1 ho).1
  have HRD : Hid (Reads w (if c = i + 1 then (some ⟨g, 0, none⟩ : Option Addr) else (some ⟨g, (i + 1) * 2, none⟩ : Option Addr)) (pcells (es.drop (i + 1)))) := by
    have := hrd.cut c (i + 1) es.length 2 (by omega) (by rw [hpl.out]; omega) (by rw [hpl.out]; omega) (by omega)
    rw [List.take_of_length_le (by rw [hpl.out]; omega), addr_map, Nat.zero_add] at this
    rw [pcells_drop]
    exact this
  have HL2 : Hid ((pcells (es.drop (i + 1))).length = (es.length - (i + 1)) * 2) := by unfold Hid; rw [pcells_length]; simp; omega
  have HPT : Hid (cur.take (i * 2) = pcells (es.take i)) := by
    unfold Hid
    rw [pcells_take, ← hct, List.take_take, Nat.min_eq_left (by omega)]
  clear hcm hcl hct hg hrd ho
  have j1 : (i : Int) ≤ (i : Int) + 1 := by omega
  have j2 : (i : Int) + 1 ≤ (es.length : Int) := by omega
  have j3 : (es.length : Int) ≤ (c : Int) := by omega
  have j4 : ((i : Int) == (i : Int) + 1) = false := by simp; omega
  have j4' : ¬ ((i : Int) = (i : Int) + 1) := by omega
  have j5 : ((i : Int) + 1).toNat = i + 1 := by omega
  have j6 : (0 : Int) ≤ (i : Int) + 1 := by omega
  have j7 : (i : Int) ≤ (c : Int) := by omega
  have j8 : (i : Int) + 1 ≤ (c : Int) := by omega
  have j9 : (i : Int) ≤ (es.length : Int) := by omega
  have k1 : ((i + (es.length - (i + 1)) : Nat) : Int) ≤ (es.length : Int) := by omega
  have k2 : ¬ (c = i + (es.length - (i + 1))) := by omega
  have k3 : es.length - (i + (es.length - (i + 1))) = 1 := by omega
  have fin : ∀ (w3 : World) (cur3 : List Value), w3.heap[g]? = some (.cells cur3.toArray 28 (0, 0)) → cur3.length = c * 2 → cur3.take ((i + (es.length - (i + 1))) * 2) = pcells (es.take i ++ es.drop (i + 1)) → Below B w w3 →
      OwnPost B (es.take i ++ es.drop (i + 1)) w (.returned (.slice (some ⟨g, 0, none⟩) (i + (es.length - (i + 1))) c)) w3 := fun w3 cur3 h1 h2 h3 h4 => by
    have hl : (es.take i ++ es.drop (i + 1)).length = i + (es.length - (i + 1)) := by simp; omega
    refine ⟨_, rfl, ?_, h4⟩
    rw [hl]
    exact own_shut hBg h1 (by omega) HCM.out h2 h3
  have FIN := Lib.hid fin
  clear fin
  have hci := hroom _ _ rfl
  clear hroom
  (go_enter Try.func90, Try.ntmps90
   go_wp2_with fail
   go_region_law (refine step_room EI_edge rfl (.tmp 22) (.tmp 25) rfl g cur i c rfl HG.out HCL.out ((some ⟨g, (i + 1) * 2, none⟩)) (es.length - (i + 1)) _ (pcells (es.drop (i + 1))) rfl ?_ HL2.out (pcells_one _) ?_ ?_
                  · have := HRD.out
                    (rw [if_neg hci] at this)
                    exact this
                  · omega
                  intro w2 hg2 hgr2)
   all_goals
     have hcl2 : (cur.take (i * 2) ++ pcells (es.drop (i + 1)) ++ cur.drop ((i + (es.length - (i + 1))) * 2)).length = c * 2 := by
       rw [List.length_append, List.length_append, HL2.out, List.length_take, List.length_drop, HCL.out]; omega
     have hct2 : (cur.take (i * 2) ++ pcells (es.drop (i + 1)) ++ cur.drop ((i + (es.length - (i + 1))) * 2)).take ((i + (es.length - (i + 1))) * 2) = pcells (es.take i ++ es.drop (i + 1)) := by
       rw [HPT.out, ← pcells_append, List.take_append_of_le_length (by rw [pcells_length]; simp; omega), List.take_of_length_le (by rw [pcells_length]; simp; omega)]
     generalize cur.take (i * 2) ++ pcells (es.drop (i + 1)) ++ cur.drop ((i + (es.length - (i + 1))) * 2) = cur2 at hg2 hcl2 hct2
     have HG2 := Lib.hid hg2
     have HC2 := Lib.hid hcl2
     have HT2 := Lib.hid hct2
     clear hg2 hcl2 hct2
     go_wp2_with (first
       | ((with_reducible refine wpList_clear1 rfl (.tmp 31) rfl g ((i + (es.length - (i + 1))) * 2) (c - (i + (es.length - (i + 1)))) ?_ cur2 _ HG2.out ?_ ?_)
          · simp [Act.eval]
            try omega
          · rw [HC2.out]; omega
          intro w3 hg3 hgr3
          have HG3 := Lib.hid hg3
          clear hg3))
     go_ret
     refine FIN.out _ _ HG3.out ?_ ?_ ?_
     · rw [List.length_append, List.length_append, List.length_take, List.length_drop, HC2.out]; simp; omega
     · rw [List.append_assoc, List.take_append_of_le_length (by rw [List.length_take, HC2.out]; omega), List.take_take, Nat.min_self, HT2.out]
     · exact Below.grown (Below.grown (by (repeat (first | with_reducible exact Below.refl _ _ | with_reducible assumption | with_reducible refine below_drewN0 ?_ _ | with_reducible refine Below.drew ?_ | with_reducible refine Below.alloc ?_ ?_ _ | with_reducible refine Below.setCell ?_ ?_ _ | go_size | exact Below.size (by assumption)))) hgr2 (by go_size; try omega) (fun k hk => by cases hk; exact hBg)) hgr3 (by have h9 := hgr2.size; simp at h9; omega) (fun k hk => by cases hk; exact hBg))

set_option maxHeartbeats 2000000 in
theorem deleteE_end (es : List (Int × Int)) (i : Nat) (B : Nat) (v : Value) (w : World) (ho : w.ownsRow B 28 2 v es.length (pcells es)) (hi : i < es.length) (hroom : ∀ A c, v = .slice A es.length c → c = i + 1) (hm : es.length ≤ 1000000) :
    Calls Try.prog 90 #[v, .int .i64 i, .int .i64 ((i : Int) + 1)] w (OwnPost B (es.take i ++ es.drop (i + 1)) w) := by
  obtain ⟨g, c, cur, rfl, hBg, hgl, hg, hnc, hcm, hcl, hct⟩ := own_open ho (by omega)
  have hpl := Lib.hid (pcells_length es)
  have hcm' : c ≤ 9223372036854775807 := by unfold maxLen at hcm; omega
  have HCM := Lib.hid hcm
  have HCL := Lib.hid hcl
  have HCT := Lib.hid hct
  have HG := Lib.hid hg
  have hrd := (own_reads1 ho).1
  have HRD : Hid (Reads w (if c = i + 1 then (some ⟨g, 0, none⟩ : Option Addr) else (some ⟨g, (i + 1) * 2, none⟩ : Option Addr)) (pcells (es.drop (i + 1)))) := by
    have := hrd.cut c (i + 1) es.length 2 (by omega) (by rw [hpl.out]; omega) (by rw [hpl.out]; omega) (by omega)
    rw [List.take_of_length_le (by rw [hpl.out]; omega), addr_map, Nat.zero_add] at this
    rw [pcells_drop]
    exact this
  have HL2 : Hid ((pcells (es.drop (i + 1))).length = (es.length - (i + 1)) * 2) := by unfold Hid; rw [pcells_length]; simp; omega
  have HPT : Hid (cur.take (i * 2) = pcells (es.take i)) := by
    unfold Hid
    rw [pcells_take, ← hct, List.take_take, Nat.min_eq_left (by omega)]
  clear hcm hcl hct hg hrd ho
  have j1 : (i : Int) ≤ (i : Int) + 1 := by omega
  have j2 : (i : Int) + 1 ≤ (es.length : Int) := by omega
  have j3 : (es.length : Int) ≤ (c : Int) := by omega
  have j4 : ((i : Int) == (i : Int) + 1) = false := by simp; omega
  have j4' : ¬ ((i : Int) = (i : Int) + 1) := by omega
  have j5 : ((i : Int) + 1).toNat = i + 1 := by omega
  have j6 : (0 : Int) ≤ (i : Int) + 1 := by omega
  have j7 : (i : Int) ≤ (c : Int) := by omega
  have j8 : (i : Int) + 1 ≤ (c : Int) := by omega
  have j9 : (i : Int) ≤ (es.length : Int) := by omega
  have k1 : ((i + (es.length - (i + 1)) : Nat) : Int) ≤ (es.length : Int) := by omega
  have k2 : ¬ (c = i + (es.length - (i + 1))) := by omega
  have k3 : es.length - (i + (es.length - (i + 1))) = 1 := by omega
  have fin : ∀ (w3 : World) (cur3 : List Value), w3.heap[g]? = some (.cells cur3.toArray 28 (0, 0)) → cur3.length = c * 2 → cur3.take ((i + (es.length - (i + 1))) * 2) = pcells (es.take i ++ es.drop (i + 1)) → Below B w w3 →
      OwnPost B (es.take i ++ es.drop (i + 1)) w (.returned (.slice (some ⟨g, 0, none⟩) (i + (es.length - (i + 1))) c)) w3 := fun w3 cur3 h1 h2 h3 h4 => by
    have hl : (es.take i ++ es.drop (i + 1)).length = i + (es.length - (i + 1)) := by simp; omega
    refine ⟨_, rfl, ?_, h4⟩
    rw [hl]
    exact own_shut hBg h1 (by omega) HCM.out h2 h3
  have FIN := Lib.hid fin
  clear fin
  have hci := hroom _ _ rfl
  clear hroom
  obtain hlen : es.length = i + 1 := by omega
  have hdn : es.take i ++ es.drop (i + 1) = es.take i := by rw [List.drop_of_length_le (by omega), List.append_nil]
  rw [hdn] at FIN ⊢
  have HLEN := Lib.hid hlen
  clear hlen hdn k1 k2 k3
  subst hci
  go_enter Try.func90, Try.ntmps90
  go_wp2_with fail
  go_region_law (refine step_room EI_edge rfl (.tmp 22) (.tmp 25) rfl g cur i (i + 1) rfl HG.out HCL.out (some ⟨g, 0, none⟩) 0 _ [] rfl ?_ ?_ ?_ ?_ ?_
                 · exact .inl rfl
                 · simp
                 · simp
                 · omega
                 intro w2 hg2 hgr2)
  all_goals
    have hid : cur.take (i * 2) ++ [] ++ cur.drop ((i + 0) * 2) = cur := by rw [List.append_nil, Nat.add_zero, List.take_append_drop]
    rw [hid] at hg2
    have HG2 := Lib.hid hg2
    clear hg2 hid
    go_wp2_with (first
      | ((with_reducible refine wpList_clear1 rfl (.tmp 31) rfl g (i * 2) (i + 1 - i) ?_ cur _ HG2.out ?_ ?_)
         · have h8 := HLEN.out
           simp [Act.eval]
           try omega
         · rw [HCL.out]; omega
         intro w3 hg3 hgr3
         have HG3 := Lib.hid hg3
         clear hg3))
    go_ret
    have h9 := FIN.out w3 _ HG3.out ?_ ?_ ?_
    · rw [show i + (es.length - (i + 1)) = i by have := HLEN.out; omega] at h9
      exact h9
    · rw [List.length_append, List.length_append, List.length_take, List.length_drop, HCL.out]; simp; omega
    · rw [show i + (es.length - (i + 1)) = i by have := HLEN.out; omega, List.append_assoc, List.take_append_of_le_length (by rw [List.length_take, HCL.out]; omega), List.take_take, Nat.min_self, HPT.out]
    · exact Below.grown (Below.grown (by (repeat (first | with_reducible exact Below.refl _ _ | with_reducible assumption | with_reducible refine below_drewN0 ?_ _ | with_reducible refine Below.drew ?_ | with_reducible refine Below.alloc ?_ ?_ _ | with_reducible refine Below.setCell ?_ ?_ _ | go_size | exact Below.size (by assumption)))) hgr2 (by go_size; try omega) (fun k hk => by cases hk; exact hBg)) hgr3 (by have h9 := hgr2.size; simp at h9; omega) (fun k hk => by cases hk; exact hBg)

theorem deleteE (es : List (Int × Int)) (i : Nat) (B : Nat) (v : Value) (w : World) (ho : w.ownsRow B 28 2 v es.length (pcells es)) (hi : i < es.length) (hm : es.length ≤ 1000000) :
    Calls Try.prog 90 #[v, .int .i64 i, .int .i64 ((i : Int) + 1)] w (OwnPost B (es.take i ++ es.drop (i + 1)) w) := by
  obtain ⟨A, c, rfl, _, _⟩ := own_reads0 ho
  by_cases h : c = i + 1
  · exact deleteE_end es i B _ w ho hi (fun A' c' h' => by simp at h'; omega) hm
  · exact deleteE_in es i B _ w ho hi (fun A' c' h' => by simp at h'; omega) hm

end Go.Proofs.Ytglhdoibglafbaa
