/- Walk of mates.Right. -/
import Derived.Test.YtgddfmfiiodgbaaU26
import Derived.Test.YtgddfmfiiodgbaaU21
namespace Go.Proofs.Ytgddfmfiiodgbaa
open Go Go.RowKit
set_option maxRecDepth 100000
set_option linter.unusedVariables false
set_option linter.unusedSimpArgs false

set_option maxHeartbeats 1000000 in
theorem mright_no (n : Int) (es : List (Int × Int)) (A mA : Option Addr) (c m mc : Nat) (w : World) (hr : Reads w A (pcells es)) (hc : es.length ≤ c) (hm : es.length ≤ 4611686018427387903) (hR : rightB n es = false) :
    Calls Try.prog 97 #[.agg #[.int .i64 n, .slice A es.length c], .slice mA m mc] w fun e w' => e = .returned (.bool false) ∧ Below w.heap.size w w' := by
  have HRI := fun (W : World) (h : Reads W A (pcells es)) => right_any n es A c W h hc hm
  rw [hR] at HRI
  have HR := Lib.hid hr
  clear hr hR
  go_enter Try.func97, Try.ntmps97
  go_upto_region 1 with fail
  (obtain ⟨w1, hw1⟩ : ∃ w1, w1 = w.alloc (Obj.cells #[Value.int IntKind.i64 n, Value.slice A es.length c] 25) := ⟨_, rfl⟩
   rw [← hw1]
   have hb1 : Below w.heap.size w w1 := by rw [hw1]; exact (Below.refl _ _).alloc (Nat.le_refl _) _
   have h1 : w1.heap[w.heap.size]? = some (.cells #[Value.int IntKind.i64 n, Value.slice A es.length c] 25 (0, 0)) := by rw [hw1]; exact heap_alloc_new _ _
   have hs1 : w1.heap.size = w.heap.size + 1 := by rw [hw1, World.size_alloc]
   have c0 := blkc0 h1 0 _ rfl
   have c1 := blkc0 h1 1 _ rfl
   have HB1 := Lib.hid hb1
   have H1 := Lib.hid h1
   have HS1 := Lib.hid hs1
   clear hw1 hb1 h1 hs1)
  go_wp2_with (go_at_call 91; (refine (HRI w1 (HR.out.below HB1.out)).mono ?_; rintro e w2 ⟨rfl, hb2⟩))
  go_ret
  exact ⟨rfl, HB1.out.trans (hb2.mono HB1.out.size)⟩

set_option maxHeartbeats 1000000 in
theorem mright_len (n : Int) (es : List (Int × Int)) (A mA : Option Addr) (c m mc : Nat) (w : World) (hr : Reads w A (pcells es)) (hc : es.length ≤ c) (hm : es.length ≤ 4611686018427387903) (hR : rightB n es = true) (hne : (m : Int) ≠ n) :
    Calls Try.prog 97 #[.agg #[.int .i64 n, .slice A es.length c], .slice mA m mc] w fun e w' => e = .returned (.bool false) ∧ Below w.heap.size w w' := by
  have HRI := fun (W : World) (h : Reads W A (pcells es)) => right_any n es A c W h hc hm
  rw [hR] at HRI
  have HR := Lib.hid hr
  have i1 : ((m : Int) != n) = true := by rw [bne_iff_ne]; exact hne
  clear hr hR
  go_enter Try.func97, Try.ntmps97
  go_upto_region 1 with fail
  (obtain ⟨w1, hw1⟩ : ∃ w1, w1 = w.alloc (Obj.cells #[Value.int IntKind.i64 n, Value.slice A es.length c] 25) := ⟨_, rfl⟩
   rw [← hw1]
   have hb1 : Below w.heap.size w w1 := by rw [hw1]; exact (Below.refl _ _).alloc (Nat.le_refl _) _
   have h1 : w1.heap[w.heap.size]? = some (.cells #[Value.int IntKind.i64 n, Value.slice A es.length c] 25 (0, 0)) := by rw [hw1]; exact heap_alloc_new _ _
   have hs1 : w1.heap.size = w.heap.size + 1 := by rw [hw1, World.size_alloc]
   have c0 := blkc0 h1 0 _ rfl
   have c1 := blkc0 h1 1 _ rfl
   have HB1 := Lib.hid hb1
   have H1 := Lib.hid h1
   have HS1 := Lib.hid hs1
   clear hw1 hb1 h1 hs1)
  go_wp2_with (go_at_call 91; (refine (HRI w1 (HR.out.below HB1.out)).mono ?_; rintro e w2 ⟨rfl, hb2⟩; have h2 := (hb2.block w.heap.size (by have := HS1.out; omega)).trans H1.out; have d0 := blkc0 h2 0 _ rfl; have d1 := blkc0 h2 1 _ rfl))
  go_ret
  exact ⟨rfl, HB1.out.trans (hb2.mono HB1.out.size)⟩

/-- An own row of truth values. -/
def RowB (w : World) (b n : Nat) (J : Nat → Bool) : Prop := w.heap[b]? = some (.cells (rowOf n fun v => .bool (J v)).toArray 4 (0, 0))
theorem RowB.cell {w : World} {b n : Nat} {J : Nat → Bool} (h : RowB w b n J) {i : Nat} (hi : i < n) : w.cell? ⟨b, i, none⟩ = some (.bool (J i)) := blkc0 h i _ (by simp [rowOf, hi])
theorem RowB.frozen {w : World} {b n : Nat} {J : Nat → Bool} (h : RowB w b n J) (i : Nat) : w.frozen? ⟨b, i, none⟩ = false := blkf0 h i
theorem RowB.set {w : World} {b n : Nat} {J : Nat → Bool} (h : RowB w b n J) (i : Nat) (x : Bool) : RowB (w.setCell ⟨b, i, none⟩ (.bool x)) b n (upd J i x) := by
  have h2 : (rowOf n fun v => Value.bool (upd J i x v)) = (rowOf n fun v => Value.bool (J v)).set i (.bool x) := by rw [rowOf_set, upd_map J (fun y => Value.bool y)]
  unfold RowB at h ⊢
  rw [h2]
  simp [World.setCell, Array.getElem?_modify, h]
theorem RowB.congr {w : World} {b n : Nat} {J K : Nat → Bool} (h : RowB w b n J) (hk : ∀ v, J v = K v) : RowB w b n K := by
  rw [show K = J from funext fun v => (hk v).symm]; exact h
theorem RowB.below {w w' : World} {b n : Nat} {J : Nat → Bool} (h : RowB w b n J) {B : Nat} (hb : Below B w w') (hB : b < B) : RowB w' b n J := (hb.block b hB).trans h
theorem RowB.lt {w : World} {b n : Nat} {J : Nat → Bool} (h : RowB w b n J) : b < w.heap.size := heap_lt0 h
theorem RowB.old {w : World} {b n : Nat} {J : Nat → Bool} (h : RowB w b n J) (o : Obj) : RowB (w.alloc o) b n J := heap_old h
theorem RowB.far {w : World} {b n : Nat} {J : Nat → Bool} (h : RowB w b n J) {a : Addr} (ha : b ≠ a.block) (u : Value) : RowB (w.setCell a u) b n J := heap_far h ha u

/-- What holds of the world of mates.Right. -/
structure MrW (w : World) (n : Nat) (es : List (Int × Int)) (l : List Int) (B : Nat) (wr : World) (k : Nat) : Prop where
  row : RowB wr B n (joinK es l k)
  lo : w.heap.size ≤ B
  below : Below w.heap.size w wr

theorem MrW.drewN {w : World} {n : Nat} {es : List (Int × Int)} {l : List Int} {B k : Nat} {wr : World} (h : MrW w n es l B wr k) (q : Nat) : MrW w n es l B (wr.drewN q) k := ⟨h.row, h.lo, below_drewN0 h.below q⟩

set_option maxHeartbeats 4000000 in
theorem mright_yes (n : Nat) (es : List (Int × Int)) (A mA : Option Addr) (c mc : Nat) (l : List Int) (w : World) (hr : Reads w A (pcells es)) (hc : es.length ≤ c) (hR : rightB n es = true) (hl : l.length = n) (hrm : Reads w mA (icells l)) :
    Calls Try.prog 97 #[.agg #[.int .i64 (n : Int), .slice A es.length c], .slice mA n mc] w fun e w' => ∃ b, e = .returned (.bool b) ∧ (b = true ↔ MateP n es l) ∧ Below w.heap.size w w' := by
  have hP := (right_iff n es).1 hR
  have hn : n ≤ 4096 := by have := hP.n1; omega
  have hm : es.length ≤ 2000000 := by have := hP.len; omega
  have HRI := fun (W : World) (h : Reads W A (pcells es)) => right_any (n : Int) es A c W h hc (by omega)
  rw [hR] at HRI
  have HR := Lib.hid hr
  have HRM := Lib.hid hrm
  have HP := Lib.hid hP
  have HL := Lib.hid hl
  have i1 : ((n : Int) != (n : Int)) = false := by simp
  have hmk := fun W : World => run_make_row' (P := Try.prog) 134 4 (.bool false) 1 Try.underlying134 (by kernel_rfl) rfl .i64 .i64 n (by omega) (by omega) W
  clear hr hR hP hrm hl
  go_enter Try.func97, Try.ntmps97
  go_upto_region 1 with fail
  (obtain ⟨w1, hw1⟩ : ∃ w1, w1 = w.alloc (Obj.cells #[Value.int IntKind.i64 (n : Int), Value.slice A es.length c] 25) := ⟨_, rfl⟩
   rw [← hw1]
   have hb1 : Below w.heap.size w w1 := by rw [hw1]; exact (Below.refl _ _).alloc (Nat.le_refl _) _
   have h1 : w1.heap[w.heap.size]? = some (.cells #[Value.int IntKind.i64 (n : Int), Value.slice A es.length c] 25 (0, 0)) := by rw [hw1]; exact heap_alloc_new _ _
   have hs1 : w1.heap.size = w.heap.size + 1 := by rw [hw1, World.size_alloc]
   have c0 := blkc0 h1 0 _ rfl
   have c1 := blkc0 h1 1 _ rfl
   have HB1 := Lib.hid hb1
   have H1 := Lib.hid h1
   have HS1 := Lib.hid hs1
   clear hw1 hb1 h1 hs1)
  go_upto_region 4 with (go_at_call 91; (refine (HRI w1 (HR.out.below HB1.out)).mono ?_; rintro e w2 ⟨rfl, hb2⟩; have h2 := (hb2.block w.heap.size (by have := HS1.out; omega)).trans H1.out; have d0 := blkc0 h2 0 _ rfl; have d1 := blkc0 h2 1 _ rfl))
  have hg0 : RowB (w2.alloc (Obj.cells (madeCells #[Value.bool false] n) 4)) w2.heap.size n (joinK es l 0) := by
    have := heap_alloc_new w2 (Obj.cells (madeCells #[Value.bool false] n) 4)
    rw [made_const] at this
    unfold RowB
    rw [show (fun v => Value.bool (joinK es l 0 v)) = fun _ => Value.bool false from funext fun v => by rw [joinK_zero]]
    rw [made_const]
    exact this
  have HB2 := Lib.hid (show Below w.heap.size w w2 from HB1.out.trans (hb2.mono HB1.out.size))
  have hM0 : MrW w n es l w2.heap.size (w2.alloc (Obj.cells (madeCells #[Value.bool false] n) 4)) 0 := ⟨hg0, HB2.out.size, HB2.out.alloc HB2.out.size _⟩
  have e0 := heap_old (o' := Obj.cells (madeCells #[Value.bool false] n) 4) h2
  have c1 := blkc0 e0 1 _ rfl
  have HM0 := Lib.hid hM0
  clear hg0 hM0 e0 h2 d0 d1 hb2 c0 H1 HS1 HB1 hmk HRI i1
  generalize w2.alloc (Obj.cells (madeCells #[Value.bool false] n) 4) = w3 at HM0 c1 ⊢
  obtain ⟨B, hB⟩ : ∃ B, B = w2.heap.size := ⟨_, rfl⟩
  rw [← hB] at HM0 ⊢
  clear hB HB2
  go_wp2_with fail
  go_loopw [26] (fun i wr => ∃ (k : Nat), i = .int .i64 k ∧ k ≤ es.length ∧ Hid (MrW w n es l B wr k)) (fun i _ => es.length - (intOf i).toNat)
  case atStart => exact ⟨0, rfl, Nat.zero_le _, HM0⟩
  case round =>
    clear HM0 c1
    obtain ⟨k, rfl, hk, hM⟩ := hrel
    by_cases hlt : k < es.length
    · obtain ⟨⟨x, y⟩, hxy⟩ : ∃ e, es[k]? = some e := ⟨es[k], by simp [hlt]⟩
      have hok := HP.out.ok _ (List.mem_of_getElem? hxy)
      simp only at hok
      obtain ⟨a, rfl⟩ : ∃ a' : Nat, x = (a' : Int) := ⟨x.toNat, by omega⟩
      obtain ⟨b, rfl⟩ : ∃ b' : Nat, y = (b' : Int) := ⟨y.toNat, by omega⟩
      obtain ⟨eb, eo, hA, _, cx, cy⟩ := (HR.out.below hM.out.below).pair' k _ hxy
      simp only at cx cy
      rw [hA]
      have HA := Lib.hid hA
      have HXY := Lib.hid hxy
      have i1 : (0 : Int) ≤ (k : Int) := by omega
      have i2 : (k : Int) < (es.length : Int) := by omega
      have han : a < n := by omega
      have hbn : b < n := by omega
      obtain ⟨ma, hma⟩ : ∃ z, l[a]? = some z := ⟨l[a]'(by rw [HL.out]; exact han), by simp [HL.out, han]⟩
      obtain ⟨mb, hmb⟩ : ∃ z, l[b]? = some z := ⟨l[b]'(by rw [HL.out]; exact hbn), by simp [HL.out, hbn]⟩
      have hab : a ≠ b := by omega
      clear hA hxy
      go_upto_region 7 with fail
      obtain ⟨wa, hwa⟩ : ∃ wa, wa = wr.alloc (Obj.cells #[Value.int IntKind.i64 (a : Int), Value.int IntKind.i64 (b : Int)] 49) := ⟨_, rfl⟩
      rw [← hwa]
      have t7 : wa.heap[wr.heap.size]? = some (.cells #[Value.int IntKind.i64 (a : Int), Value.int IntKind.i64 (b : Int)] 49 (0, 0)) := by rw [hwa]; exact heap_alloc_new _ _
      have q0 := blkc0 t7 0 _ rfl
      have q1 := blkc0 t7 1 _ rfl
      have hMa : MrW w n es l B wa k := by rw [hwa]; exact ⟨hM.out.row.old _, hM.out.lo, hM.out.below.alloc hM.out.below.size _⟩
      have hBr : B ≠ wr.heap.size := by have := hM.out.row.lt; omega
      obtain ⟨t, ht⟩ : ∃ t, t = wr.heap.size := ⟨_, rfl⟩
      rw [← ht] at t7 q0 q1 hBr ⊢
      obtain ⟨mb0, mo, hmA, _, cma⟩ := (HRM.out.below hMa.below).int a ma hma
      obtain ⟨mb1, mo1, hmA', _, cmb⟩ := (HRM.out.below hMa.below).int b mb hmb
      rw [hmA] at hmA'
      obtain ⟨rfl, rfl⟩ : mb1 = mb0 ∧ mo1 = mo := by simp at hmA'; omega
      have HMA := Lib.hid hmA
      rw [hmA]
      have HT := Lib.hid t7
      have HMW := Lib.hid hMa
      have a1 : (0 : Int) ≤ (a : Int) := by omega
      have a2 : (a : Int) < (n : Int) := by omega
      have b1 : (0 : Int) ≤ (b : Int) := by omega
      have b2 : (b : Int) < (n : Int) := by omega
      clear hmA hmA' hwa ht hM hMa t7
      by_cases h1 : ma = (b : Int)
      · by_cases h2 : mb = (a : Int)
        · have j1 : (ma == (b : Int)) = true := by rw [beq_iff_eq]; exact h1
          have j2 : (mb == (a : Int)) = true := by rw [beq_iff_eq]; exact h2
          have hpe : pairedE l ((a : Int), (b : Int)) = true := by simp [pairedE, hma, hmb, h1, h2]
          have HPE := Lib.hid hpe
          clear h1 h2 hma hmb hpe
          go_upto_region 7 with fail
          go_quiet (fail)
          go_upto_region 8 with fail
          have HN8 := Lib.hid (show (∀ q, RowB (((wa.drewN q).setCell { block := B, off := a } (Value.bool true)).setCell { block := B, off := b } (Value.bool true)) B n (joinK es l (k + 1))) ∧ True from ⟨fun q => ((show RowB (wa.drewN q) B n _ from HMW.out.row).set a true |>.set b true).congr fun v => by
            rw [joinK_succ HXY.out, HPE.out]
            unfold upd
            by_cases e1 : v = b
            · simp [e1]
            · by_cases e2 : v = a
              · simp [e1, e2]
              · have f1 : ¬ (b : Int) = (v : Int) := by omega
                have f2 : ¬ (a : Int) = (v : Int) := by omega
                simp [e1, e2, f1, f2], trivial⟩)
          have HB8 := Lib.hid (show w.heap.size ≤ B ∧ (∀ q, Below w.heap.size w (((wa.drewN q).setCell { block := B, off := a } (Value.bool true)).setCell { block := B, off := b } (Value.bool true))) from ⟨HMW.out.lo, fun q => ((below_drewN0 HMW.out.below q).setCell (p := ⟨B, a, none⟩) HMW.out.lo _).setCell (p := ⟨B, b, none⟩) HMW.out.lo _⟩)
          have za := HMW.out.row.frozen a
          have zb := HMW.out.row.frozen b
          have ja := HMW.out.row.cell han
          have jb := HMW.out.row.cell hbn
          go_region_held3 (fun w' => w'.cell? ⟨t, 0, none⟩ = some (.int .i64 (a : Int)) ∧ w'.cell? ⟨t, 1, none⟩ = some (.int .i64 (b : Int))) (first | exact ⟨q0, q1⟩ | (simp [go_sem, *]; done)) (fail)
          all_goals
            go_wp2_with fail
            rw [← HA.out, ← HMA.out]
            go_roundw
            case rel => exact ⟨k + 1, by go_num, by omega, HN8.out.1 _, HB8.out.1, HB8.out.2 _⟩
            case measure => simp [intOf]; omega
        · have j1 : (ma == (b : Int)) = true := by rw [beq_iff_eq]; exact h1
          have j2 : (mb == (a : Int)) = false := by rw [beq_eq_false_iff_ne]; exact h2
          have hpe : pairedE l ((a : Int), (b : Int)) = false := by simp [pairedE, hma, hmb, h2]
          have HNX : MrW w n es l B wa (k + 1) := ⟨HMW.out.row.congr fun v => by rw [joinK_succ HXY.out, hpe]; simp, HMW.out.lo, HMW.out.below⟩
          have HN := Lib.hid HNX
          clear h1 h2 hma hmb hpe HNX
          go_upto_region 7 with fail
          go_quiet (fail)
          go_wp2_with fail
          rw [← HA.out, ← HMA.out]
          go_roundw
          case rel => exact ⟨k + 1, by go_num, by omega, HN.out.drewN nq⟩
          case measure => simp [intOf]; omega
      · have j1 : (ma == (b : Int)) = false := by rw [beq_eq_false_iff_ne]; exact h1
        have hpe : pairedE l ((a : Int), (b : Int)) = false := by simp [pairedE, hma, hmb, h1]
        have HNX : MrW w n es l B wa (k + 1) := ⟨HMW.out.row.congr fun v => by rw [joinK_succ HXY.out, hpe]; simp, HMW.out.lo, HMW.out.below⟩
        have HN := Lib.hid HNX
        clear h1 hma hmb hpe HNX
        go_upto_region 7 with fail
        go_quiet (fail)
        go_wp2_with fail
        rw [← HA.out, ← HMA.out]
        go_roundw
        case rel => exact ⟨k + 1, by go_num, by omega, HN.out.drewN nq⟩
        case measure => simp [intOf]; omega
    · obtain rfl : k = es.length := by omega
      go_wp2_with fail
      go_loopw [59] (fun i wr2 => ∃ (v : Nat), i = .int .i64 v ∧ v ≤ n ∧ Hid (∀ u x, u < v → l[u]? = some x → x = -1 ∨ joinK es l es.length u = true) ∧ wr2 = wr) (fun i _ => n - (intOf i).toNat)
      case atStart => exact ⟨0, rfl, Nat.zero_le _, fun u x hu => absurd hu (Nat.not_lt_zero _), rfl⟩
      case round =>
        obtain ⟨v, rfl, hv, hall, rfl⟩ := hrel
        by_cases hlt2 : v < n
        · obtain ⟨x, hx⟩ : ∃ z, l[v]? = some z := ⟨l[v]'(by rw [HL.out]; exact hlt2), by simp [HL.out, hlt2]⟩
          obtain ⟨mb, mo, hmA, _, cx⟩ := (HRM.out.below hM.out.below).int v x hx
          rw [hmA]
          have i1 : (0 : Int) ≤ (v : Int) := by omega
          have i2 : (v : Int) < (n : Int) := by omega
          have cj := hM.out.row.cell hlt2
          have HMA := Lib.hid hmA
          have HX := Lib.hid hx
          clear hmA hx
          by_cases h1 : x = -1
          · have j1 : (x != -1) = false := by simp [h1]
            have hal : ∀ u x, u < v + 1 → l[u]? = some x → x = -1 ∨ joinK es l es.length u = true := fun u z hu hz => by
              by_cases e : u = v
              · subst e; rw [HX.out] at hz; cases hz; exact .inl h1
              · exact hall.out u z (by omega) hz
            have HAL := Lib.hid hal
            clear h1 hal cj
            go_wp2_with fail
            exact ⟨⟨v + 1, by go_num, by omega, HAL, trivial⟩, by simp [intOf]; omega⟩
          · have j1 : (x != -1) = true := by rw [bne_iff_ne]; exact h1
            cases hj : joinK es l es.length v with
            | true =>
              rw [hj] at cj
              have hal : ∀ u x, u < v + 1 → l[u]? = some x → x = -1 ∨ joinK es l es.length u = true := fun u z hu hz => by
                by_cases e : u = v
                · subst e; exact .inr hj
                · exact hall.out u z (by omega) hz
              have HAL := Lib.hid hal
              clear h1 hal hj
              go_wp2_with fail
              exact ⟨⟨v + 1, by go_num, by omega, HAL, trivial⟩, by simp [intOf]; omega⟩
            | false =>
              rw [hj] at cj
              have hno : ¬ MateP n es l := fun h => by
                rcases (mateP_to HP.out h).2 v x hlt2 HX.out with h2 | h2
                · exact h1 h2
                · rw [hj] at h2; cases h2
              have HNO := Lib.hid hno
              clear h1 hj hno
              go_wp2_with fail
              go_ret
              exact ⟨false, rfl, ⟨fun h => (by cases h), fun h => absurd h HNO.out⟩, hM.out.below⟩
        · obtain rfl : v = n := by omega
          have hyes := mateP_of HP.out HL.out hall.out
          have HY := Lib.hid hyes
          clear hyes hall
          go_wp2_with fail
          go_ret
          exact ⟨true, rfl, ⟨fun _ => HY.out, fun _ => rfl⟩, hM.out.below⟩
end Go.Proofs.Ytgddfmfiiodgbaa

/- Walk of single.Path. -/
namespace Go.Proofs.Ytgddfmfiiodgbaa
open Go Go.RowKit
set_option maxRecDepth 100000
set_option linter.unusedVariables false
set_option linter.unusedSimpArgs false

/-- What Path leaves of a matching. -/
def PathPost (n : Nat) (es : List (Int × Int)) (M : Nat → Option Nat) (w : World) (e : Ending) (w' : World) : Prop :=
  (∃ p g c, e = .returned (.tuple #[.slice (some ⟨g, 0, none⟩) (natI p).length c, .slice none 0 0, .int .i64 0]) ∧ AugW (adjE es) M p ∧ (∀ x ∈ p, x < n) ∧
    w'.ownsRow w.heap.size 3 1 (.slice (some ⟨g, 0, none⟩) (natI p).length c) (natI p).length (icells (natI p)) ∧ Below w.heap.size w w') ∨
  (∃ B S D, e = .returned (.tuple #[.slice none 0 0, .slice (some ⟨B, 0, none⟩) n n, .int .i64 0]) ∧ FInv n (adjE es) M S D ∧ Closed (adjE es) M S ∧ RowI w' 3 B (labL n S) ∧ w.heap.size ≤ B ∧ Below w.heap.size w w')

set_option maxHeartbeats 1000000 in
theorem path_no (n : Int) (es : List (Int × Int)) (A mA : Option Addr) (c m mc : Nat) (w : World) (hr : Reads w A (pcells es)) (hc : es.length ≤ c) (hm : es.length ≤ 4611686018427387903) (hR : rightB n es = false) :
    Calls Try.prog 39 #[.agg #[.int .i64 n, .slice A es.length c], .slice mA m mc] w fun e w' => e = .returned (.tuple #[.slice none 0 0, .slice none 0 0, .int .i64 3]) ∧ Below w.heap.size w w' := by
  have HRI := fun (W : World) (h : Reads W A (pcells es)) => right_any n es A c W h hc hm
  rw [hR] at HRI
  have HR := Lib.hid hr
  clear hr hR
  go_enter Try.func39, Try.ntmps39
  go_upto_region 1 with fail
  (obtain ⟨w1, hw1⟩ : ∃ w1, w1 = w.alloc (Obj.cells #[Value.int IntKind.i64 n, Value.slice A es.length c] 25) := ⟨_, rfl⟩
   rw [← hw1]
   have hb1 : Below w.heap.size w w1 := by rw [hw1]; exact (Below.refl _ _).alloc (Nat.le_refl _) _
   have h1 : w1.heap[w.heap.size]? = some (.cells #[Value.int IntKind.i64 n, Value.slice A es.length c] 25 (0, 0)) := by rw [hw1]; exact heap_alloc_new _ _
   have hs1 : w1.heap.size = w.heap.size + 1 := by rw [hw1, World.size_alloc]
   have c0 := blkc0 h1 0 _ rfl
   have c1 := blkc0 h1 1 _ rfl
   have HB1 := Lib.hid hb1
   have H1 := Lib.hid h1
   have HS1 := Lib.hid hs1
   clear hw1 hb1 h1 hs1)
  go_wp2_with (go_at_call 91; (refine (HRI w1 (HR.out.below HB1.out)).mono ?_; rintro e w2 ⟨rfl, hb2⟩))
  go_ret3
  exact ⟨rfl, HB1.out.trans (hb2.mono HB1.out.size)⟩

set_option maxHeartbeats 1000000 in
theorem path_bad (n : Nat) (es : List (Int × Int)) (A mA : Option Addr) (c mc : Nat) (l : List Int) (w : World) (hr : Reads w A (pcells es)) (hc : es.length ≤ c) (hR : rightB n es = true) (hrm : Reads w mA (icells l)) (hno : ¬ MateP n es l) :
    Calls Try.prog 39 #[.agg #[.int .i64 (n : Int), .slice A es.length c], .slice mA l.length mc] w fun e w' => e = .returned (.tuple #[.slice none 0 0, .slice none 0 0, .int .i64 9]) ∧ Below w.heap.size w w' := by
  have hP := (right_iff n es).1 hR
  have HRI := fun (W : World) (h : Reads W A (pcells es)) => right_any (n : Int) es A c W h hc (by have := hP.len; omega)
  rw [hR] at HRI
  have HMR := fun (W : World) (h : Reads W A (pcells es)) (h2 : Reads W mA (icells l)) => (show Calls Try.prog 97 #[.agg #[.int .i64 (n : Int), .slice A es.length c], .slice mA l.length mc] W fun e w' => e = .returned (.bool false) ∧ Below W.heap.size W w' from by
    by_cases hl : l.length = n
    · subst hl
      refine (mright_yes l.length es A mA c mc l W h hc hR rfl h2).mono ?_
      rintro e w' ⟨b, rfl, hb, hbl⟩
      cases b with
      | true => exact absurd (hb.1 rfl) hno
      | false => exact ⟨rfl, hbl⟩
    · exact mright_len n es A mA c l.length mc W h hc (by have := hP.len; omega) hR (by omega))
  have HR := Lib.hid hr
  have HRM := Lib.hid hrm
  clear hr hR hP hrm hno
  go_enter Try.func39, Try.ntmps39
  go_upto_region 1 with fail
  (obtain ⟨w1, hw1⟩ : ∃ w1, w1 = w.alloc (Obj.cells #[Value.int IntKind.i64 (n : Int), Value.slice A es.length c] 25) := ⟨_, rfl⟩
   rw [← hw1]
   have hb1 : Below w.heap.size w w1 := by rw [hw1]; exact (Below.refl _ _).alloc (Nat.le_refl _) _
   have h1 : w1.heap[w.heap.size]? = some (.cells #[Value.int IntKind.i64 (n : Int), Value.slice A es.length c] 25 (0, 0)) := by rw [hw1]; exact heap_alloc_new _ _
   have hs1 : w1.heap.size = w.heap.size + 1 := by rw [hw1, World.size_alloc]
   have c0 := blkc0 h1 0 _ rfl
   have c1 := blkc0 h1 1 _ rfl
   have HB1 := Lib.hid hb1
   have H1 := Lib.hid h1
   have HS1 := Lib.hid hs1
   clear hw1 hb1 h1 hs1)
  go_upto_region 3 with (go_at_call 91; (refine (HRI w1 (HR.out.below HB1.out)).mono ?_; rintro e w2 ⟨rfl, hb2⟩))
  have h2 := (hb2.block w.heap.size (by have := HS1.out; omega)).trans H1.out
  have d0 := blkc0 h2 0 _ rfl
  have d1 := blkc0 h2 1 _ rfl
  have HB2 := Lib.hid (HB1.out.trans (hb2.mono HB1.out.size))
  clear c0 c1 hb2 h2
  go_wp2_with (go_at_call 97; (refine (HMR w2 (HR.out.below HB2.out) (HRM.out.below HB2.out)).mono ?_; rintro e w3 ⟨rfl, hb3⟩))
  go_ret3
  exact ⟨rfl, HB2.out.trans (hb3.mono HB2.out.size)⟩

set_option maxHeartbeats 1000000 in
theorem path_yes (n : Nat) (es : List (Int × Int)) (A mA : Option Addr) (c mc : Nat) (M : Nat → Option Nat) (w : World) (hr : Reads w A (pcells es)) (hc : es.length ≤ c) (hR : rightB n es = true) (hrm : Reads w mA (icells (mateL n M))) (hM : IsMat n (adjE es) M) (hmc : n ≤ mc) :
    Calls Try.prog 39 #[.agg #[.int .i64 (n : Int), .slice A es.length c], .slice mA n mc] w (PathPost n es M w) := by
  have hP := (right_iff n es).1 hR
  have hn : n ≤ 4096 := by have := hP.n1; omega
  have hm : es.length ≤ 2000000 := by have := hP.len; omega
  have HRI := fun (W : World) (h : Reads W A (pcells es)) => right_any (n : Int) es A c W h hc (by omega)
  have HLI := fun (W : World) (h : Reads W A (pcells es)) => lists_any n es A c W h hc hm (by omega) (fun e he => by have := hP.ok e he; omega)
  have HMR := fun (W : World) (h : Reads W A (pcells es)) (h2 : Reads W mA (icells (mateL n M))) => (show Calls Try.prog 97 #[.agg #[.int .i64 (n : Int), .slice A es.length c], .slice mA n mc] W fun e w' => e = .returned (.bool true) ∧ Below W.heap.size W w' from by
    refine (mright_yes n es A mA c mc (mateL n M) W h hc hR (mateL_length n M) h2).mono ?_
    rintro e w' ⟨b, rfl, hb, hbl⟩
    rw [hb.2 ⟨M, rfl, hM⟩]
    exact ⟨rfl, hbl⟩)
  have HSE := fun (W : World) (B : Nat) (h2 : NearAt W (some ⟨B, 0, none⟩) n (nrN es)) (h3 : Reads W mA (icells (mateL n M))) =>
    search_any (nc := n) (mc := mc) (right_gr hP) hM (fun v u _ => mem_nrN hP v u) (by omega) (by rw [sumD_all hP]; have := hP.len; omega) h2 h3 hmc
  rw [hR] at HRI
  have HP := Lib.hid hP
  have HR := Lib.hid hr
  have HRM := Lib.hid hrm
  clear hr hR hP hrm
  go_enter Try.func39, Try.ntmps39
  go_upto_region 1 with fail
  (obtain ⟨w1, hw1⟩ : ∃ w1, w1 = w.alloc (Obj.cells #[Value.int IntKind.i64 (n : Int), Value.slice A es.length c] 25) := ⟨_, rfl⟩
   rw [← hw1]
   have hb1 : Below w.heap.size w w1 := by rw [hw1]; exact (Below.refl _ _).alloc (Nat.le_refl _) _
   have h1 : w1.heap[w.heap.size]? = some (.cells #[Value.int IntKind.i64 (n : Int), Value.slice A es.length c] 25 (0, 0)) := by rw [hw1]; exact heap_alloc_new _ _
   have hs1 : w1.heap.size = w.heap.size + 1 := by rw [hw1, World.size_alloc]
   have c0 := blkc0 h1 0 _ rfl
   have c1 := blkc0 h1 1 _ rfl
   have HB1 := Lib.hid hb1
   have H1 := Lib.hid h1
   have HS1 := Lib.hid hs1
   clear hw1 hb1 h1 hs1)
  go_upto_region 3 with (go_at_call 91; (refine (HRI w1 (HR.out.below HB1.out)).mono ?_; rintro e w2 ⟨rfl, hb2⟩))
  have h2 := (hb2.block w.heap.size (by have := HS1.out; omega)).trans H1.out
  have d0 := blkc0 h2 0 _ rfl
  have d1 := blkc0 h2 1 _ rfl
  have H2 := Lib.hid h2
  have HB2 := Lib.hid (HB1.out.trans (hb2.mono HB1.out.size))
  have HS2 := Lib.hid (show w.heap.size < w2.heap.size by have := HS1.out; have := hb2.size; omega)
  clear c0 c1 hb2 h2
  go_upto_region 5 with (go_at_call 97; (refine (HMR w2 (HR.out.below HB2.out) (HRM.out.below HB2.out)).mono ?_; rintro e w3 ⟨rfl, hb3⟩))
  have h3 := (hb3.block w.heap.size HS2.out).trans H2.out
  have e0 := blkc0 h3 0 _ rfl
  have e1 := blkc0 h3 1 _ rfl
  have HB3 := Lib.hid (HB2.out.trans (hb3.mono HB2.out.size))
  have HS3 := Lib.hid (show w.heap.size < w3.heap.size by have := HS2.out; have := hb3.size; omega)
  clear d0 d1 hb3 h3
  go_upto_region 6 with (first
    | (go_at_call 94; (refine (HLI w3 (HR.out.below HB3.out)).mono ?_; rintro e w4 ⟨B, vs, rfl, hB, hRS, hb4⟩; have hb5 := HB3.out.trans (hb4.mono HB3.out.size)))
    | (go_at_call 98; (refine (HSE w4 B (near_of_rows (g := w.heap.size) HP.out hRS (by have := HS3.out; omega) (by omega)).at (HRM.out.below hb5)).mono ?_; rintro e w5 h5; rcases h5 with ⟨p, g, cg, lk, rfl, hlk, haug, hplt, hown, hb6⟩ | ⟨BL, S, D, lk, rfl, hlk, hinv, hcl, hRB, hBL, hb6⟩)))
  · go_wp2_with fail
    go_ret3
    exact .inl ⟨p, g, cg, rfl, haug, hplt, own_cast hown hb5.size rfl rfl, hb5.trans (hb6.mono hb5.size)⟩
  · go_wp2_with fail
    go_ret3
    exact .inr ⟨BL, S, D, rfl, hinv, hcl, hRB, Nat.le_trans hb5.size hBL, hb5.trans (hb6.mono hb5.size)⟩
end Go.Proofs.Ytgddfmfiiodgbaa
