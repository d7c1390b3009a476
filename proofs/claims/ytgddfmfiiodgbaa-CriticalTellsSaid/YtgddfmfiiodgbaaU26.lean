/- Walks of mates.None, greedy.First. -/
import Derived.Test.YtgddfmfiiodgbaaU25
namespace Go.Proofs.Ytgddfmfiiodgbaa
open Go Go.RowKit
set_option maxRecDepth 100000
set_option linter.unusedVariables false
set_option linter.unusedSimpArgs false

set_option maxHeartbeats 1000000 in
theorem none_any (n : Nat) (es : List (Int × Int)) (A : Option Addr) (c : Nat) (w : World) (hr : Reads w A (pcells es)) (hc : es.length ≤ c) (hm : es.length ≤ 2000000) (hR : rightB n es = true) :
    Calls Try.prog 109 #[.agg #[.int .i64 (n : Int), .slice A es.length c]] w fun e w' => ∃ B, e = .returned (.slice (some ⟨B, 0, none⟩) n n) ∧ w.heap.size ≤ B ∧ RowI w' 3 B (List.replicate n (-1)) ∧ Below w.heap.size w w' := by
  have hn : n ≤ 4096 := by have := ((right_iff n es).1 hR).n1; omega
  have HRI := fun (W : World) (h : Reads W A (pcells es)) => right_any (n : Int) es A c W h hc (by omega)
  rw [hR] at HRI
  have HRE := fun (b : Nat) (W : World) (h : RowI W 3 b [-1]) => repeat_any (-1) n (by omega) h
  have HR := Lib.hid hr
  clear hr hR
  go_enter Try.func109, Try.ntmps109
  go_upto_region 1 with fail
  obtain ⟨w1, hw1⟩ : ∃ w1, w1 = w.alloc (Obj.cells #[Value.int IntKind.i64 (n : Int), Value.slice A es.length c] 25) := ⟨_, rfl⟩
  rw [← hw1]
  have hb1 : Below w.heap.size w w1 := by rw [hw1]; exact (Below.refl _ _).alloc (Nat.le_refl _) _
  have h1 : w1.heap[w.heap.size]? = some (.cells #[Value.int IntKind.i64 (n : Int), Value.slice A es.length c] 25 (0, 0)) := by rw [hw1]; exact heap_alloc_new _ _
  have hs1 : w1.heap.size = w.heap.size + 1 := by rw [hw1, World.size_alloc]
  have c0 := blkc0 h1 0 _ rfl
  have c1 := blkc0 h1 1 _ rfl
  have HB1 := Lib.hid hb1
  have H1 := Lib.hid h1
  have HS1 := Lib.hid hs1
  clear hw1 hb1 h1 hs1
  go_upto_region 3 with (go_at_call 91; (refine (HRI w1 (HR.out.below HB1.out)).mono ?_; rintro e w2 ⟨rfl, hb2⟩))
  have HB2 := Lib.hid hb2
  have h2 := (hb2.block w.heap.size (by have := HS1.out; omega)).trans H1.out
  have d0 := blkc0 h2 0 _ rfl
  have d1 := blkc0 h2 1 _ rfl
  have d2 := blkc0 (heap_old (o' := Obj.cells #[Value.int IntKind.i64 (-1)] 3) h2) 0 _ rfl
  clear hb2 h2 c0 c1
  go_wp2_with (go_at_call 154; (refine (HRE w2.heap.size _ (heap_alloc_new w2 _)).mono ?_; rintro e w3 ⟨B, rfl, hB, hRB, hb3⟩))
  go_ret
  have s1 := HS1.out
  have s2 := HB2.out.size
  rw [World.size_alloc] at hB hb3
  refine ⟨B, rfl, by omega, hRB, HB1.out.trans ((HB2.out.mono (by omega)).trans ?_)⟩
  exact ((Below.refl _ _).alloc (by omega) _).trans (hb3.mono (by omega))

set_option maxHeartbeats 1000000 in
theorem free_any {mA : Option Addr} {mc : Nat} {l : List Int} {v : Nat} {x : Int} {w : World} (hr : Reads w mA (icells l)) (hx : l[v]? = some x) :
    Calls Try.prog 134 #[.agg #[.slice mA l.length mc], .int .i64 (v : Int)] w fun e w' => e = .returned (.bool (decide (x < 0))) ∧ Below w.heap.size w w' := by
  obtain ⟨hlt, _⟩ := List.getElem?_eq_some_iff.1 hx
  obtain ⟨b, o, hA, hb, cx⟩ := hr.int v x hx
  have i1 : (0 : Int) ≤ (v : Int) := by omega
  have i2 : (v : Int) < (l.length : Int) := by omega
  subst hA
  have cx' := ((Below.refl w.heap.size w).alloc (Nat.le_refl _) (.cells #[Value.slice (some ⟨b, o, none⟩) l.length mc] 146)).cell (p := ⟨b, o + v, none⟩) hb |>.trans cx
  clear hr hx
  go_enter Try.func134, Try.ntmps134
  go_wp2_with fail
  go_ret
  exact ⟨rfl, (Below.refl _ _).alloc (Nat.le_refl _) _⟩

set_option maxHeartbeats 1000000 in
theorem index_free {mA xA : Option Addr} {mc xc : Nat} {l xs : List Int} {w : World} (hr : Reads w mA (icells l)) (hrx : Reads w xA (icells xs)) (hin : ∀ x ∈ xs, 0 ≤ x ∧ x < (l.length : Int)) (hm : xs.length ≤ 2000000) :
    Calls Try.prog 135 #[.slice xA xs.length xc, .func (.func 134) #[.agg #[.slice mA l.length mc]] #[]] w fun e w' => ∃ r : Int, e = .returned (.int .i64 r) ∧ (r = -1 ∨ ∃ (k u : Nat) (y : Int), r = (k : Int) ∧ xs[k]? = some (u : Int) ∧ l[u]? = some y ∧ y < 0) ∧ Below w.heap.size w w' := by
  have HR := Lib.hid hr
  have HX := Lib.hid hrx
  have HIN := Lib.hid hin
  clear hr hrx hin
  go_enter Try.func135, Try.ntmps135
  go_wp2_with fail
  go_loopw [8] (fun i wr => ∃ (k : Nat), i = .int .i64 k ∧ k ≤ xs.length ∧ Hid (Below w.heap.size w wr)) (fun i _ => xs.length - (intOf i).toNat)
  case atStart => exact ⟨0, rfl, Nat.zero_le _, Below.refl _ _⟩
  case round =>
    obtain ⟨k, rfl, hk, hb⟩ := hrel
    by_cases hlt : k < xs.length
    · obtain ⟨x, hx⟩ : ∃ x, xs[k]? = some x := ⟨xs[k], by simp [hlt]⟩
      have hxr := HIN.out x (List.mem_of_getElem? hx)
      obtain ⟨u, rfl⟩ : ∃ u : Nat, x = (u : Int) := ⟨x.toNat, by omega⟩
      have hul : u < l.length := by omega
      obtain ⟨y, hy⟩ : ∃ y, l[u]? = some y := ⟨l[u], by simp [hul]⟩
      obtain ⟨b, o, hA, _, cx⟩ := (HX.out.below hb.out).int k (u : Int) hx
      rw [hA]
      have HA := Lib.hid hA
      have i1 : (0 : Int) ≤ (k : Int) := by omega
      have i2 : (k : Int) < (xs.length : Int) := by omega
      have HF := free_any (mc := mc) (HR.out.below hb.out) hy
      have HXK := Lib.hid hx
      have HY := Lib.hid hy
      clear hA hx hy hxr
      by_cases hneg : y < 0
      · have hd : decide (y < 0) = true := by simpa using hneg
        rw [hd] at HF
        go_wp2_with (go_at_call 134; (refine HF.mono ?_; rintro e w2 ⟨rfl, hb2⟩))
        go_ret
        exact ⟨_, rfl, .inr ⟨k, u, y, rfl, HXK.out, HY.out, hneg⟩, hb.out.trans (hb2.mono hb.out.size)⟩
      · have hd : decide (y < 0) = false := by simpa using hneg
        rw [hd] at HF
        go_wp2_with (go_at_call 134; (refine HF.mono ?_; rintro e w2 ⟨rfl, hb2⟩))
        exact ⟨⟨k + 1, by go_num, by omega, hb.out.trans (hb2.mono hb.out.size)⟩, by simp [intOf]; omega⟩
    · obtain rfl : k = xs.length := by omega
      go_wp2_with fail
      go_ret
      exact ⟨-1, rfl, .inl rfl, hb.out⟩
end Go.Proofs.Ytgddfmfiiodgbaa

/- Walk of greedy.First. -/
namespace Go.Proofs.Ytgddfmfiiodgbaa
open Go Go.RowKit
set_option maxRecDepth 100000
set_option linter.unusedVariables false
set_option linter.unusedSimpArgs false

/-- What First leaves. -/
def FirstPost (n : Nat) (es : List (Int × Int)) (w : World) (e : Ending) (w' : World) : Prop :=
  ∃ M mA g, e = .returned (.slice mA n n) ∧ IsMat n (adjE es) M ∧ RowO w' mA g (mateL n M) ∧ w.heap.size ≤ g ∧ g < w'.heap.size ∧ Below w.heap.size w w'

/-- What holds of First's world. -/
structure FiW (w : World) (n : Nat) (es : List (Int × Int)) (r g B : Nat) (wr : World) (M : Nat → Option Nat) : Prop where
  mat : IsMat n (adjE es) M
  row : RowI wr 3 g (mateL n M)
  rcd : wr.heap[r]? = some (.cells #[.slice (some ⟨g, 0, none⟩) n n] 146 (0, 0))
  near : NearG wr (some ⟨B, 0, none⟩) n (nrN es) g
  ne : r ≠ g
  lo : w.heap.size ≤ g
  hi : g < r
  below : Below w.heap.size w wr

theorem FiW.go {w : World} {n : Nat} {es : List (Int × Int)} {r g B : Nat} {wr wr' : World} {M : Nat → Option Nat} (h : FiW w n es r g B wr M) (hb : Below wr.heap.size wr wr') : FiW w n es r g B wr' M :=
  ⟨h.mat, h.row.below hb h.row.lt, (hb.block _ (heap_lt0 h.rcd)).trans h.rcd, h.near.but (but_of hb g), h.ne, h.lo, h.hi, h.below.trans (hb.mono h.below.size)⟩
theorem IsMat.pair {n : Nat} {E : Nat → Nat → Prop} {M : Nat → Option Nat} (h : IsMat n E M) (hg : IsGr n E) {v u : Nat} (hE : E v u) (hv : M v = none) (hu : M u = none) : IsMat n E (upd (upd M v (some u)) u (some v)) := by
  have hne : v ≠ u := fun e => hg.irr v (by rw [← e] at hE; exact hE)
  have hval : ∀ x y, upd (upd M v (some u)) u (some v) x = some y → (x = v ∧ y = u) ∨ (x = u ∧ y = v) ∨ (x ≠ v ∧ x ≠ u ∧ y ≠ v ∧ y ≠ u ∧ M x = some y) := by
    intro x y hxy
    unfold upd at hxy
    by_cases h1 : x = u
    · rw [if_pos h1] at hxy; cases hxy; exact .inr (.inl ⟨h1, rfl⟩)
    · rw [if_neg h1] at hxy
      by_cases h2 : x = v
      · rw [if_pos h2] at hxy; cases hxy; exact .inl ⟨h2, rfl⟩
      · rw [if_neg h2] at hxy
        refine .inr (.inr ⟨h2, h1, fun e => ?_, fun e => ?_, hxy⟩)
        · subst e; rw [h.symm hxy] at hv; cases hv
        · subst e; rw [h.symm hxy] at hu; cases hu
  have hup : ∀ x y, M x = some y → x ≠ v → x ≠ u → upd (upd M v (some u)) u (some v) x = some y := fun x y h1 h2 h3 => by unfold upd; rw [if_neg h3, if_neg h2]; exact h1
  refine ⟨fun {x y} hxy => ?_, fun {x y} hxy => ?_, fun {x y} hxy => ?_⟩
  · rcases hval x y hxy with ⟨rfl, rfl⟩ | ⟨rfl, rfl⟩ | ⟨h1, h2, h3, h4, h5⟩
    · simp [upd]
    · simp [upd, hne]
    · exact hup _ _ (h.symm h5) h3 h4
  · rcases hval x y hxy with ⟨rfl, rfl⟩ | ⟨rfl, rfl⟩ | ⟨h1, h2, h3, h4, h5⟩
    · exact hE
    · exact hg.symm hE
    · exact h.edge h5
  · rcases hval x y hxy with ⟨rfl, rfl⟩ | ⟨rfl, rfl⟩ | ⟨h1, h2, h3, h4, h5⟩
    · exact hg.lt hE
    · exact hg.lt (hg.symm hE)
    · exact h.lt h5
theorem mateL_none (n : Nat) : mateL n (fun _ => none) = List.replicate n (-1) := by
  apply List.ext_getElem?
  intro j
  simp only [mateL, List.getElem?_map, List.getElem?_replicate]
  by_cases h : j < n
  · simp [h, encO]
  · simp [h]

set_option maxHeartbeats 2000000 in
theorem gfirst_any (n : Nat) (es : List (Int × Int)) (A : Option Addr) (c : Nat) (w : World) (hr : Reads w A (pcells es)) (hc : es.length ≤ c) (hR : rightB n es = true) :
    Calls Try.prog 92 #[.agg #[.int .i64 (n : Int), .slice A es.length c]] w (FirstPost n es w) := by
  have hP := (right_iff n es).1 hR
  have hn : n ≤ 4096 := by have := hP.n1; omega
  have hm : es.length ≤ 2000000 := by have := hP.len; omega
  have HNO := fun (W : World) (h : Reads W A (pcells es)) => none_any n es A c W h hc hm hR
  have HLI := fun (W : World) (h : Reads W A (pcells es)) => lists_any n es A c W h hc hm (by omega) (fun e he => by have := hP.ok e he; omega)
  have HR := Lib.hid hr
  have HP := Lib.hid hP
  clear hr hR hP
  go_enter Try.func92, Try.ntmps92
  go_upto_region 1 with fail
  obtain ⟨w1, hw1⟩ : ∃ w1, w1 = w.alloc (Obj.cells #[Value.int IntKind.i64 (n : Int), Value.slice A es.length c] 25) := ⟨_, rfl⟩
  rw [← hw1]
  have hb1 : Below w.heap.size w w1 := by rw [hw1]; exact (Below.refl _ _).alloc (Nat.le_refl _) _
  have h1 : w1.heap[w.heap.size]? = some (.cells #[Value.int IntKind.i64 (n : Int), Value.slice A es.length c] 25 (0, 0)) := by rw [hw1]; exact heap_alloc_new _ _
  have hs1 : w1.heap.size = w.heap.size + 1 := by rw [hw1, World.size_alloc]
  have c0 := blkc0 h1 0 _ rfl
  have c1 := blkc0 h1 1 _ rfl
  have HB1 := Lib.hid hb1
  have H1 := Lib.hid h1
  have HS1 := Lib.hid hs1
  clear hw1 hb1 h1 hs1
  go_upto_region 2 with (go_at_call 109; (refine (HNO w1 (HR.out.below HB1.out)).mono ?_; rintro e w2 ⟨g, rfl, hg, hRg, hb2⟩))
  have hs2 := hb2.size
  have hs1 := HS1.out
  have hgs := hRg.lt
  obtain ⟨w3, hw3⟩ : ∃ w3, w3 = w2.alloc (Obj.cells #[.slice (some ⟨g, 0, none⟩) n n] 146) := ⟨_, rfl⟩
  rw [← hw3]
  have r3 : w3.heap[w2.heap.size]? = some (.cells #[.slice (some ⟨g, 0, none⟩) n n] 146 (0, 0)) := by rw [hw3]; exact heap_alloc_new _ _
  have hR3 : RowI w3 3 g (mateL n fun _ => none) := by rw [hw3, mateL_none]; exact hRg.old _
  have hB3 : Below w1.heap.size w1 w3 := by rw [hw3]; exact hb2.alloc hs2 _
  have hs3 : w3.heap.size = w2.heap.size + 1 := by rw [hw3, World.size_alloc]
  have h3 := (hB3.block w.heap.size (by omega)).trans H1.out
  have c0 := blkc0 h3 0 _ rfl
  have c1 := blkc0 h3 1 _ rfl
  have cr := blkc0 r3 0 _ rfl
  obtain ⟨r, hr⟩ : ∃ r, r = w2.heap.size := ⟨_, rfl⟩
  rw [← hr] at r3 cr hs3 hgs hs2 ⊢
  have HB3 := Lib.hid (show Below w.heap.size w w3 from HB1.out.trans (hB3.mono (by omega)))
  have HLO := Lib.hid (show w.heap.size ≤ g by omega)
  have HHI := Lib.hid (show g < r by omega)
  have HS3 := Lib.hid hs3
  have HR3 := Lib.hid hR3
  have H3 := Lib.hid r3
  clear hw3 hRg hb2 hB3 h3 hr hs2 hs1 hgs hg hs3 hR3 r3
  by_cases h0 : n = 0
  · have i0 : ((n : Int) == 0) = true := by rw [beq_iff_eq]; omega
    have e0 : (n : Int) = 0 := by omega
    go_wp2_with fail
    go_ret
    exact ⟨fun _ => none, none, g, by subst h0; rfl, ⟨fun h => (by cases h), fun h => (by cases h), fun h => (by cases h)⟩, .inr (by rw [h0]; rfl), HLO.out, by have := HHI.out; have := HS3.out; omega, HB3.out⟩
  · have i0 : ((n : Int) == 0) = false := by rw [beq_eq_false_iff_ne]; omega
    have e0 : ¬ (n : Int) = 0 := by omega
    go_upto_region 4 with fail
    go_cut [4] (fun a wc => ∃ B, a = .slice (some ⟨B, 0, none⟩) n n ∧ Hid (FiW w n es r g B wc (fun _ => none)))
    case first =>
      go_wp2_with (go_at_call 94; (refine (HLI w3 (HR.out.below HB3.out)).mono ?_; rintro e w4 ⟨B, vs, rfl, hB, hRS, hb4⟩))
      go_meet
      have := HS3.out
      have := HHI.out
      exact ⟨B, rfl, ⟨⟨fun h => (by cases h), fun h => (by cases h), fun h => (by cases h)⟩, HR3.out.below hb4 (by omega), (hb4.block r (by omega)).trans H3.out, near_of_rows HP.out hRS (by omega) (by omega), by omega, HLO.out, HHI.out, HB3.out.trans (hb4.mono HB3.out.size)⟩⟩
    case rest =>
      obtain ⟨B, rfl, hF⟩ := hcut
      clear c0 c1 cr H3 HR3 HS3 HHI HLO HB3 H1 HS1 HB1
      have cr := blkc0 hF.out.rcd 0 _ rfl
      go_wp2_with fail
      go_loopw [23] (fun i wr => ∃ (v : Nat) (M : Nat → Option Nat), i = .int .i64 v ∧ v ≤ n ∧ Hid (FiW w n es r g B wr M)) (fun i _ => n - (intOf i).toNat)
      case atStart => exact ⟨0, _, rfl, Nat.zero_le _, hF⟩
      case round =>
        clear hF cr
        obtain ⟨v, M, rfl, hv, hF⟩ := hrel
        have cr := blkc0 hF.out.rcd 0 _ rfl
        by_cases hlt : v < n
        · have i1 : (0 : Int) ≤ (v : Int) := by omega
          have i2 : (v : Int) < (n : Int) := by omega
          have HFR := free_any (mc := n) hF.out.row.reads (mateL_get M hlt)
          rw [mateL_length] at HFR
          cases hMv : M v with
          | some u =>
            rw [hMv, show decide (encO (some u) < 0) = false by (show decide ((u : Int) < 0) = false); rw [decide_eq_false_iff_not]; omega] at HFR
            clear hMv
            go_wp2_with (go_at_call 134; (refine HFR.mono ?_; rintro e w5 ⟨rfl, hb5⟩))
            exact ⟨⟨v + 1, M, by go_num, by omega, hF.out.go hb5⟩, by simp [intOf]; omega⟩
          | none =>
            rw [hMv, show decide (encO none < 0) = true by simp [encO]] at HFR
            have HMV := Lib.hid hMv
            clear hMv
            go_upto_region 9 with (go_at_call 134; (refine HFR.mono ?_; rintro e w5 ⟨rfl, hb5⟩))
            have HF5 := Lib.hid (hF.out.go hb5)
            clear hb5 hF cr HFR
            obtain ⟨nb, no, A1, c1, hnA, hnb, hcn, hlc, hrd, hnb2, hA1⟩ := HF5.out.near v hlt
            obtain ⟨rfl, rfl⟩ : B = nb ∧ 0 = no := by simp at hnA; omega
            have cr := blkc0 HF5.out.rcd 0 _ rfl
            have HIX := fun q : Nat => index_free (w := w5.drewN q) (mc := n) (xc := c1) (show Reads (w5.drewN q) _ _ from HF5.out.row.reads) (show Reads (w5.drewN q) A1 (icells (natI (nrN es v))) from hrd) (fun x hx => by rw [natI_nrN HP.out] at hx; rw [mateL_length]; exact near_nonneg HP.out _ x hx) (by rw [natI_nrN HP.out]; have := nearL_length es v; have := HP.out.len; omega)
            rw [mateL_length] at HIX
            have HRD := Lib.hid hrd
            have HNB := Lib.hid hnb
            rw [Nat.zero_add] at hcn
            have HCN := Lib.hid hcn
            clear hrd hnA
            go_upto_region 9 with fail
            (refine wp_quiet_tail 6 (by kernel_rfl) (by kernel_rfl) ?_
             simp only [List.take_succ_cons, List.take_zero, List.drop_succ_cons, List.drop_zero]
             repeat (go_big_quiet_step (fail))
             refine wpQuiet_nil ?_
             intro _ hw'
             obtain ⟨nq, hw''⟩ := hw'
             subst hw'')
            go_upto_region 10 with (go_at_call 135; (refine (HIX nq).mono ?_; rintro e w6 ⟨rr, rfl, hrr, hb6⟩))
            have HF6 := Lib.hid (HF5.out.go ((below_drewN0 (Below.refl _ _) nq).trans hb6))
            have hbb := (below_drewN0 (Below.refl w5.heap.size w5) nq).trans hb6
            have hcn6 := (hbb.cell (p := ⟨B, v, none⟩) HNB.out).trans HCN.out
            have hrd6 := HRD.out.below hbb
            have cr6 := blkc0 HF6.out.rcd 0 _ rfl
            have hz := HF6.out.row.frozen v
            have hvc := HF6.out.row.cell (mateL_get M hlt)
            clear HF5 HRD HCN HNB hb6 hbb cr hcn hnb HIX HNO HLI
            rcases hrr with rfl | ⟨k, u, y, rfl, hxk, hlu, hy⟩
            · clear hrd6 hcn6 cr6 hz hvc
              go_wp2_with fail
              exact ⟨⟨v + 1, M, by go_num, by omega, HF6⟩, by simp [intOf]; omega⟩
            · have hku := (List.getElem?_eq_some_iff.1 hxk).1
              obtain ⟨ab, ao, hA, _, cx⟩ := hrd6.int k (u : Int) hxk
              rw [hA] at hcn6
              have hun : u < n := by have := (List.getElem?_eq_some_iff.1 hlu).1; rw [mateL_length] at this; exact this
              have hMu : M u = none := by
                rw [mateL_get M hun] at hlu
                cases hlu
                cases hm9 : M u with
                | none => rfl
                | some z => rw [hm9] at hy; simp [encO] at hy; omega
              have hadj : adjE es v u := (mem_nrN HP.out v u).2 (by
                have h9 := List.mem_of_getElem? hxk
                simp only [natI, List.mem_map] at h9
                obtain ⟨a, ha, e⟩ := h9
                have : a = u := by omega
                rw [← this]; exact ha)
              have hne : v ≠ u := fun e => (right_gr HP.out).irr v (by rw [← e] at hadj; exact hadj)
              have hpair := HF6.out.mat.pair (right_gr HP.out) hadj HMV.out hMu
              have huc := HF6.out.row.cell (mateL_get M hun)
              have hzu := HF6.out.row.frozen u
              have hR2 := (HF6.out.row.set v (u : Int)).set u (v : Int)
              rw [mateL_set _ v (some u) (u : Int) rfl, mateL_set _ u (some v) (v : Int) rfl] at hR2
              have hrg : r ≠ g := HF6.out.ne
              have hF7 : FiW w n es r g B ((w6.setCell ⟨g, v, none⟩ (.int .i64 (u : Int))).setCell ⟨g, u, none⟩ (.int .i64 (v : Int))) (upd (upd M v (some u)) u (some v)) :=
                ⟨hpair, hR2, heap_far (heap_far HF6.out.rcd hrg _) hrg _, HF6.out.near.but (((But.refl _ _ _).set v _).set u _), hrg, HF6.out.lo, HF6.out.hi, (HF6.out.below.setCell (p := ⟨g, v, none⟩) HF6.out.lo _).setCell (p := ⟨g, u, none⟩) HF6.out.lo _⟩
              have HF7 := Lib.hid hF7
              have k1 : (0 : Int) ≤ (k : Int) := by omega
              have k2 : (k : Int) < ((natI (nrN es v)).length : Int) := by omega
              have u1 : (0 : Int) ≤ (u : Int) := by omega
              have u2 : (u : Int) < (n : Int) := by omega
              obtain ⟨len, hlen⟩ : ∃ len, len = (natI (nrN es v)).length := ⟨_, rfl⟩
              rw [← hlen] at hcn6 k2 hlc ⊢
              clear hrd6 hxk hlu hy hMu hadj hpair hR2 hF7 hA hku hlen
              go_upto_region 12 with fail
              go_region_held3 (fun w' => w'.cell? ⟨r, 0, none⟩ = some (.slice (some ⟨g, 0, none⟩) n n)) (first | exact cr6 | (simp [go_sem, *]; done)) (fail)
              all_goals
                go_wp2_with fail
                exact ⟨⟨v + 1, _, by go_num, by omega, HF7.out.go (Below.refl _ _).drew⟩, by simp [intOf]; omega⟩
        · have i2 : (n : Int) ≤ (v : Int) := by omega
          have HF := hF
          clear hF
          obtain rfl : v = n := by omega
          go_wp2_with fail
          go_ret
          refine ⟨M, some ⟨g, 0, none⟩, g, rfl, HF.out.mat, .inl ⟨rfl, HF.out.row⟩, HF.out.lo, HF.out.row.lt, HF.out.below⟩
end Go.Proofs.Ytgddfmfiiodgbaa

/- Walk of mates.Right. -/
namespace Go.Proofs.Ytgddfmfiiodgbaa
open Go Go.RowKit
set_option maxRecDepth 100000
set_option linter.unusedVariables false
set_option linter.unusedSimpArgs false

/-- A list that is a matching's mates. -/
def MateP (n : Nat) (es : List (Int × Int)) (l : List Int) : Prop := ∃ M, l = mateL n M ∧ IsMat n (adjE es) M
/-- One of the matched edges among the first k. -/
def pairedE (l : List Int) (e : Int × Int) : Bool := decide (l[e.1.toNat]? = some e.2) && decide (l[e.2.toNat]? = some e.1)
def joinK (es : List (Int × Int)) (l : List Int) (k : Nat) (v : Nat) : Bool := (es.take k).any fun e => pairedE l e && (decide (e.1 = (v : Int)) || decide (e.2 = (v : Int)))
theorem joinK_zero (es : List (Int × Int)) (l : List Int) (v : Nat) : joinK es l 0 v = false := by simp [joinK]
theorem joinK_succ {es : List (Int × Int)} {l : List Int} {k : Nat} {e : Int × Int} (h : es[k]? = some e) (v : Nat) : joinK es l (k + 1) v = (joinK es l k v || (pairedE l e && (decide (e.1 = (v : Int)) || decide (e.2 = (v : Int))))) := by
  unfold joinK; rw [take_one es k e h]; simp
theorem joinK_mate {n : Nat} {es : List (Int × Int)} {l : List Int} (hP : RightP n es) {v : Nat} (h : joinK es l es.length v = true) : ∃ u : Nat, l[v]? = some (u : Int) ∧ l[u]? = some (v : Int) ∧ adjE es v u := by
  unfold joinK at h
  rw [List.take_length, List.any_eq_true] at h
  obtain ⟨⟨a, b⟩, he, hh⟩ := h
  simp only [pairedE, Bool.and_eq_true, Bool.or_eq_true, decide_eq_true_eq] at hh
  obtain ⟨⟨h1, h2⟩, h3⟩ := hh
  have hok := hP.ok _ he
  simp only at hok
  obtain ⟨a, rfl⟩ : ∃ a' : Nat, a = (a' : Int) := ⟨a.toNat, by omega⟩
  obtain ⟨b, rfl⟩ : ∃ b' : Nat, b = (b' : Int) := ⟨b.toNat, by omega⟩
  simp only [Int.toNat_natCast] at h1 h2
  rcases h3 with h3 | h3
  · obtain rfl : a = v := by omega
    exact ⟨b, h1, h2, .inr he⟩
  · obtain rfl : b = v := by omega
    exact ⟨a, h2, h1, .inl he⟩
theorem joinK_of {n : Nat} {es : List (Int × Int)} {l : List Int} {v u : Nat} (h1 : l[v]? = some (u : Int)) (h2 : l[u]? = some (v : Int)) (h3 : adjE es v u) : joinK es l es.length v = true := by
  unfold joinK
  rw [List.take_length, List.any_eq_true]
  rcases h3 with h | h
  · exact ⟨_, h, by simp [pairedE, h1, h2]⟩
  · exact ⟨_, h, by simp [pairedE, h1, h2]⟩
theorem mateP_of {n : Nat} {es : List (Int × Int)} {l : List Int} (hP : RightP n es) (hl : l.length = n) (h : ∀ v x, v < n → l[v]? = some x → x = -1 ∨ joinK es l es.length v = true) : MateP n es l := by
  obtain ⟨M, hM⟩ : ∃ M : Nat → Option Nat, M = fun v => match l[v]? with | some x => if 0 ≤ x then some x.toNat else none | none => none := ⟨_, rfl⟩
  have hS : ∀ v u, M v = some u → v < n ∧ l[v]? = some (u : Int) := by
    intro v u hu
    rw [hM] at hu
    simp only at hu
    cases hx : l[v]? with
    | none => rw [hx] at hu; cases hu
    | some x =>
      rw [hx] at hu
      simp only at hu
      by_cases h0 : 0 ≤ x
      · rw [if_pos h0] at hu
        cases hu
        have := (List.getElem?_eq_some_iff.1 hx).1
        exact ⟨by omega, by congr 1; omega⟩
      · rw [if_neg h0] at hu; cases hu
  have hT : ∀ v (u : Nat), l[v]? = some (u : Int) → M v = some u := by
    intro v u hu
    rw [hM]
    simp [hu]
  refine ⟨M, ?_, ⟨fun {v u} hvu => ?_, fun {v u} hvu => ?_, fun {v u} hvu => (hS v u hvu).1⟩⟩
  · apply List.ext_getElem?
    intro j
    by_cases hj : j < n
    · rw [mateL_get M hj]
      have hx : l[j]? = some l[j] := by simp [hl, hj]
      rw [hx]
      congr 1
      rcases h j _ hj hx with h1 | h1
      · have : M j = none := by rw [hM]; simp only [hx]; rw [if_neg (by omega)]
        rw [this, h1]; rfl
      · obtain ⟨u, h2, _⟩ := joinK_mate hP h1
        rw [hT j u h2]
        rw [hx] at h2
        exact Option.some.inj h2
    · rw [List.getElem?_eq_none (by omega), List.getElem?_eq_none (by rw [mateL_length]; omega)]
  · obtain ⟨h1, h2⟩ := hS v u hvu
    rcases h v _ h1 h2 with h3 | h3
    · omega
    · obtain ⟨u', h4, h5, _⟩ := joinK_mate hP h3
      rw [h2] at h4
      obtain rfl : u = u' := by simp at h4; omega
      exact hT _ _ h5
  · obtain ⟨h1, h2⟩ := hS v u hvu
    rcases h v _ h1 h2 with h3 | h3
    · omega
    · obtain ⟨u', h4, _, h5⟩ := joinK_mate hP h3
      rw [h2] at h4
      obtain rfl : u = u' := by simp at h4; omega
      exact h5
theorem mateP_to {n : Nat} {es : List (Int × Int)} {l : List Int} (hP : RightP n es) (h : MateP n es l) : l.length = n ∧ ∀ v x, v < n → l[v]? = some x → x = -1 ∨ joinK es l es.length v = true := by
  obtain ⟨M, rfl, hM⟩ := h
  refine ⟨mateL_length n M, fun v x hv hx => ?_⟩
  rw [mateL_get M hv] at hx
  cases hMv : M v with
  | none => rw [hMv] at hx; cases hx; exact .inl rfl
  | some u =>
    have hu := hM.symm hMv
    refine .inr (joinK_of (n := n) (u := u) ?_ ?_ (hM.edge hMv))
    · rw [mateL_get M hv, hMv]; rfl
    · rw [mateL_get M (hM.lt hu), hu]; rfl
end Go.Proofs.Ytgddfmfiiodgbaa
