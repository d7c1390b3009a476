/- sub.named of one vertex, names' of, mates.None. -/
import Derived.Test.YtgddfmfiiodgbaaU45
import Derived.Test.YtgddfmfiiodgbaaU27
import Derived.Test.YtgddfmfiiodgbaaU25
import Derived.Test.YtgddfmfiiodgbaaU38
namespace Go.Proofs.Ytgddfmfiiodgbaa
open Go Go.RowKit
set_option maxRecDepth 100000
set_option linter.unusedVariables false
set_option linter.unusedSimpArgs false

theorem of_any {n : Nat} {f : Nat → Int} {nb v : Nat} (hv : v < n) (w : World) (hr : RowI w 3 nb (rowL n f)) :
    Calls Try.prog 177 #[.slice (some ⟨nb, 0, none⟩) n n, .int .i64 (v : Int)] w fun e w' => e = .returned (.tuple #[.int .i64 (f v), .bool (decide (0 ≤ f v))]) ∧ Below w.heap.size w w' := by
  have cx := hr.cell (rowL_get (f := f) hv)
  have i1 : (0 : Int) ≤ (v : Int) := by omega
  have i2 : (v : Int) < (n : Int) := by omega
  generalize f v = x at cx
  clear hr
  go_enter Try.func177, Try.ntmps177
  go_upto_region 1 with fail
  go_quiet (fail)
  go_wp2_with fail
  go_ret2
  exact ⟨rfl, below_drewN0 (Below.refl _ _) _⟩

set_option maxHeartbeats 1000000 in
theorem named_one {n v : Nat} {es : List (Int × Int)} (hP : RightP n es) (hv : v < n) (A : Option Addr) (c pb : Nat) (w : World) (hr : Reads w A (pcells es)) (hc : es.length ≤ c) (hrp : RowI w 3 pb [(v : Int)]) :
    Calls Try.prog 150 #[.agg #[.int .i64 (n : Int), .slice A es.length c], .slice (some ⟨pb, 0, none⟩) 1 1] w fun e w' => ∃ B, e = .returned (.tuple #[.slice (some ⟨B, 0, none⟩) n n, .int .i64 0]) ∧ w.heap.size ≤ B ∧ RowB w' B n (fun x => decide (x = v)) ∧ Below w.heap.size w w' := by
  have hn : n ≤ 4096 := by have := hP.n1; omega
  have hmk := fun W : World => run_make_row' (P := Try.prog) 134 4 (.bool false) 1 Try.underlying134 (by kernel_rfl) rfl .i64 .i64 n (by omega) (by omega) W
  have HRI := fun (W : World) (h : Reads W A (pcells es)) => right_any (n : Int) es A c W h hc (by have := hP.len; omega)
  rw [(right_iff _ _).2 hP] at HRI
  have HR := Lib.hid hr
  have HRP := Lib.hid hrp
  clear hr hrp hP
  have d1 : decide ((v : Int) < 0) = false := decide_eq_false (by omega)
  have d2 : decide ((n : Int) ≤ (v : Int)) = false := decide_eq_false (by omega)
  have i1 : (0 : Int) ≤ (v : Int) := by omega
  have i2 : (v : Int) < (n : Int) := by omega
  go_enter Try.func150, Try.ntmps150
  go_upto_region 1 with fail
  (have hX1 := Box2.new (Below.refl w.heap.size w) (Value.int IntKind.i64 (n : Int)) (Value.slice A es.length c) 25
   generalize w.alloc (Obj.cells #[Value.int IntKind.i64 (n : Int), Value.slice A es.length c] 25) = w1 at hX1 ⊢
   have c0 := hX1.c0
   have c1 := hX1.c1)
  go_upto_region 3 with (go_at_call 91; (refine (HRI w1 (HR.out.below hX1.below)).mono ?_; rintro e w2 ⟨rfl, hb2⟩))
  have hX2 := hX1.go hb2
  have c0 := hX2.c0
  have cp := (HRP.out.below hX2.below HRP.out.lt).cell (i := 0) (x := (v : Int)) rfl
  have HX2 := Lib.hid hX2
  clear hX1 hX2 hb2 HRI
  go_wp2_with fail
  go_loopw [16] (fun i wr => ∃ k : Nat, i = .int .i64 k ∧ k ≤ 1 ∧ wr = w2) (fun i _ => 1 - (intOf i).toNat)
  case atStart => exact ⟨0, rfl, by omega, rfl⟩
  case round =>
    obtain ⟨k, rfl, hk, rfl⟩ := hrel
    by_cases hk0 : k = 0
    · subst hk0
      go_wp2_with fail
      exact ⟨⟨1, by go_num, by omega, trivial⟩, by simp [intOf]⟩
    · obtain rfl : k = 1 := by omega
      go_upto_region 10 with fail
      have hB : RowB (wr.alloc (Obj.cells (madeCells #[Value.bool false] n) 4)) wr.heap.size n (fun _ => false) := by
        have := heap_alloc_new wr (Obj.cells (madeCells #[Value.bool false] n) 4)
        rw [made_const] at this
        unfold RowB
        rw [made_const]
        exact this
      have hX3 := HX2.out.old (Obj.cells (madeCells #[Value.bool false] n) 4)
      have hlo := HX2.out.below.size
      generalize wr.alloc (Obj.cells (madeCells #[Value.bool false] n) 4) = w3 at hB hX3 ⊢
      obtain ⟨B, hBB⟩ : ∃ B, B = wr.heap.size := ⟨_, rfl⟩
      rw [← hBB] at hB hlo ⊢
      have cp3 := (HRP.out.below hX3.below HRP.out.lt).cell (i := 0) (x := (v : Int)) rfl
      have HB := Lib.hid hB
      have HX3 := Lib.hid hX3.below
      clear hB hX3 hBB c0 cp hmk
      go_wp2_with fail
      go_loopw [34] (fun i wr => ∃ k : Nat, i = .int .i64 k ∧ k ≤ 1 ∧ Hid (RowB wr B n (fun x => decide (k = 1) && decide (x = v))) ∧ Hid (wr.cell? ⟨pb, 0, none⟩ = some (.int .i64 (v : Int))) ∧ Hid (Below w.heap.size w wr)) (fun i _ => 1 - (intOf i).toNat)
      case atStart => exact ⟨0, rfl, by omega, Lib.hid (HB.out.congr fun x => by simp), cp3, HX3⟩
      case round =>
        clear HB cp3 HX3
        obtain ⟨k, rfl, hk, hB, hcp, hb⟩ := hrel
        by_cases hk0 : k = 0
        · subst hk0
          have cv := hcp.out
          have cb := hB.out.cell hv
          have fb := hB.out.frozen v
          have hB2 := Lib.hid (hB.out.set v true)
          have hpB : pb ≠ B := by have := HRP.out.lt; omega
          have HCP : Hid ((wr.setCell ⟨B, v, none⟩ (.bool true)).cell? ⟨pb, 0, none⟩ = some (.int .i64 (v : Int))) := (World.cell?_of_block (w := wr) (a := ⟨pb, 0, none⟩) (Below.heap_setCell _ _ _ _ (by dsimp only; exact hpB))).trans hcp.out
          go_wp2_with fail
          refine ⟨⟨1, by go_num, by omega, Lib.hid (hB2.out.congr fun x => ?_), HCP, Lib.hid (hb.out.setCell (p := ⟨B, v, none⟩) hlo _)⟩, by simp [intOf]⟩
          unfold upd
          by_cases e : x = v
          · simp [e]
          · simp [e]
        · obtain rfl : k = 1 := by omega
          go_wp2_with fail
          go_ret2
          exact ⟨B, rfl, hlo, hB.out.congr fun x => by simp, hb.out⟩

end Go.Proofs.Ytgddfmfiiodgbaa

/- sub.kept: the graph of what is kept. -/
namespace Go.Proofs.Ytgddfmfiiodgbaa
open Go Go.RowKit
set_option maxRecDepth 100000
set_option linter.unusedVariables false
set_option linter.unusedSimpArgs false

/-- The new numbers, as far as they are known. -/
def nmF (kp : Nat → Bool) (k x : Nat) : Int := if x < k then (if kp x = true then ((rkN kp x : Nat) : Int) else -1) else 0
theorem nmF_no {kp : Nat → Bool} {k : Nat} (h : kp k = false) : upd (nmF kp k) k (-1) = nmF kp (k + 1) := by
  funext x
  unfold upd nmF
  by_cases e : x = k
  · subst e; simp [h]
  · rw [if_neg e]
    by_cases h1 : x < k
    · have h2 : x < k + 1 := by omega
      simp [h1, h2]
    · have h2 : ¬ x < k + 1 := by omega
      simp [h1, h2]
theorem nmF_yes {kp : Nat → Bool} {k : Nat} (h : kp k = true) : upd (upd (nmF kp k) k (-1)) k ((rkN kp k : Nat) : Int) = nmF kp (k + 1) := by
  funext x
  unfold upd nmF
  by_cases e : x = k
  · subst e; simp [h]
  · rw [if_neg e, if_neg e]
    by_cases h1 : x < k
    · have h2 : x < k + 1 := by omega
      simp [h1, h2]
    · have h2 : ¬ x < k + 1 := by omega
      simp [h1, h2]

structure KpW (w : World) (n : Nat) (es : List (Int × Int)) (A : Option Addr) (c b3 b6 nb : Nat) (kp : Nat → Bool) (f : Nat → Int) (k : Nat) (r : Value) (wr : World) : Prop where
  g3 : wr.heap[b3]? = some (.cells #[.int .i64 (n : Int), .slice A es.length c] 25 (0, 0))
  g6 : wr.heap[b6]? = some (.cells #[.int .i64 0, .slice none 0 0] 25 (0, 0))
  row : RowI wr 3 nb (rowL n f)
  own : wr.ownsRow (nb + 1) 3 1 r (rkN kp k) (icells (natI (wasL k kp)))
  below : Below w.heap.size w wr
  ord : w.heap.size ≤ b3 ∧ b3 < b6 ∧ b6 < nb ∧ nb < wr.heap.size
section
variable {w wr wd : World} {n : Nat} {es : List (Int × Int)} {A : Option Addr} {c b3 b6 nb : Nat} {kp : Nat → Bool} {f : Nat → Int} {k : Nat} {r : Value}
theorem KpW.go (h : KpW w n es A c b3 b6 nb kp f k r wr) (hb : Below wr.heap.size wr wd) : KpW w n es A c b3 b6 nb kp f k r wd :=
  ⟨(hb.block _ (heap_lt0 h.g3)).trans h.g3, (hb.block _ (heap_lt0 h.g6)).trans h.g6, h.row.below hb h.row.lt, own_below0 h.own hb, h.below.trans (hb.mono h.below.size), ⟨h.ord.1, h.ord.2.1, h.ord.2.2.1, Nat.lt_of_lt_of_le h.ord.2.2.2 hb.size⟩⟩
theorem KpW.set (h : KpW w n es A c b3 b6 nb kp f k r wr) (x : Nat) (y : Int) : KpW w n es A c b3 b6 nb kp (upd f x y) k r (wr.setCell ⟨nb, x, none⟩ (.int .i64 y)) := by
  have ho := h.ord
  exact ⟨heap_far h.g3 (by show b3 ≠ nb; omega) _, heap_far h.g6 (by show b6 ≠ nb; omega) _, by rw [← rowL_set f x y]; exact h.row.set x _, own_far h.own fun g hg => Below.heap_setCell _ _ _ _ (by have := (own_lt0 h.own g hg).1; show g ≠ nb; omega), h.below.setCell (p := ⟨nb, x, none⟩) (by show w.heap.size ≤ nb; omega) _, ⟨ho.1, ho.2.1, ho.2.2.1, by rw [World.size_setCell]; exact ho.2.2.2⟩⟩
theorem KpW.app (h : KpW w n es A c b3 b6 nb kp f k r wr) {r' : Value} (hk : kp k = true) (hw : wd.ownsRow (nb + 1) 3 1 r' (rkN kp k + 1) (icells (natI (wasL k kp)) ++ [.int .i64 (k : Int)])) (hg : wr.grownBy wd r.ownBlock) : KpW w n es A c b3 b6 nb kp f (k + 1) r' wd := by
  have ho := h.ord
  have hl := own_lt0 h.own
  refine ⟨(hg.block b3 (heap_lt0 h.g3) (fun e => by have := (hl b3 e.symm).1; omega)).trans h.g3, (hg.block b6 (heap_lt0 h.g6) (fun e => by have := (hl b6 e.symm).1; omega)).trans h.g6, (hg.block nb h.row.lt (fun e => by have := (hl nb e.symm).1; omega)).trans h.row, own_cast hw (Nat.le_refl _) (by rw [rkN_succ, if_pos hk]) ?_, h.below.grown hg h.below.size (fun g hg' => by have := (hl g hg').1; omega), ⟨ho.1, ho.2.1, ho.2.2.1, Nat.lt_of_lt_of_le ho.2.2.2 hg.size⟩⟩
  rw [wasL_succ, if_pos hk]
  simp [natI, icells]
theorem KpW.same (h : KpW w n es A c b3 b6 nb kp f k r wr) (hk : kp k = false) : KpW w n es A c b3 b6 nb kp f (k + 1) r wr :=
  ⟨h.g3, h.g6, h.row, own_cast h.own (Nat.le_refl _) (by rw [rkN_succ, if_neg (by rw [hk]; simp)]) (by rw [wasL_succ, if_neg (by rw [hk]; simp)]), h.below, h.ord⟩
end

def KeptPost (n : Nat) (es : List (Int × Int)) (kp : Nat → Bool) (w : World) (e : Ending) (w' : World) : Prop :=
  ∃ A' c' wA wc, e = .returned (.tuple #[.agg #[.int .i64 ((rkN kp n : Nat) : Int), .slice A' (keptL kp es).length c'], .slice wA (rkN kp n) wc]) ∧ (keptL kp es).length ≤ c' ∧ rkN kp n ≤ wc ∧ Reads w' A' (pcells (keptL kp es)) ∧ Reads w' wA (icells (natI (wasL n kp))) ∧ (∀ q, A' = some q → w.heap.size ≤ q.block) ∧ (∀ q, wA = some q → w.heap.size ≤ q.block) ∧ Below w.heap.size w w'


set_option maxHeartbeats 4000000 in
theorem kept_any {n : Nat} {es : List (Int × Int)} {J : Nat → Bool} (kp : Nat → Bool) (hkp : ∀ x, kp x = !J x) (hP : RightP n es) (A : Option Addr) (c B : Nat) (w : World) (hr : Reads w A (pcells es)) (hc : es.length ≤ c) (hB : RowB w B n J) :
    Calls Try.prog 151 #[.agg #[.int .i64 (n : Int), .slice A es.length c], .slice (some ⟨B, 0, none⟩) n n, .bool false] w (KeptPost n es kp w) := by
  have hn : n ≤ 4096 := by have := hP.n1; omega
  have hmk := fun W : World => run_make_row' (P := Try.prog) 184 3 (.int .i64 0) 8 Try.underlying184 (by kernel_rfl) rfl .i64 .i64 n (by omega) (by omega) W
  have HR := Lib.hid hr
  have HB := Lib.hid hB
  have HP := Lib.hid hP
  have HKP := Lib.hid hkp
  clear hr hB hP hkp
  go_enter Try.func151, Try.ntmps151
  go_upto_region 2 with fail
  obtain ⟨W0, hW0⟩ : ∃ W0, W0 = ((w.alloc (Obj.cells #[Value.int IntKind.i64 (n : Int), Value.slice A es.length c] 25)).alloc (Obj.cells #[Value.int IntKind.i64 0, Value.slice none 0 0] 25)).alloc (Obj.cells (madeCells #[Value.int IntKind.i64 0] n) 3) := ⟨_, rfl⟩
  rw [← hW0]
  have hK0 : KpW w n es A c w.heap.size (w.heap.size + 1) (w.heap.size + 1 + 1) kp (nmF kp 0) 0 (.slice none 0 0) W0 := by
    rw [hW0]
    refine ⟨heap_old (heap_old (heap_alloc_new _ _)), heap_old ?_, ?_, own_nil0 _ _ _ _, by (repeat (first | with_reducible exact Below.refl _ _ | with_reducible assumption | with_reducible refine below_drewN0 ?_ _ | with_reducible refine Below.drew ?_ | with_reducible refine Below.alloc ?_ ?_ _ | with_reducible refine Below.setCell ?_ ?_ _ | go_size | exact Below.size (by assumption))), ⟨Nat.le_refl _, by omega, by omega, by simp⟩⟩
    · have h := heap_alloc_new (w.alloc (Obj.cells #[Value.int IntKind.i64 (n : Int), Value.slice A es.length c] 25)) (Obj.cells #[Value.int IntKind.i64 0, Value.slice none 0 0] 25)
      rw [World.size_alloc] at h
      exact h
    · have h := heap_alloc_new ((w.alloc (Obj.cells #[Value.int IntKind.i64 (n : Int), Value.slice A es.length c] 25)).alloc (Obj.cells #[Value.int IntKind.i64 0, Value.slice none 0 0] 25)) (Obj.cells (icells (rowL n (nmF kp 0))).toArray 3)
      rw [World.size_alloc, World.size_alloc] at h
      rw [show (rowL n (nmF kp 0)) = rowL n (fun _ => 0) from rowL_congr fun v _ => by simp [nmF]] at h ⊢
      rw [rowL_made]
      exact h
  clear hW0 hmk
  obtain ⟨b3, h3⟩ : ∃ b, b = w.heap.size := ⟨_, rfl⟩
  obtain ⟨b6, h6⟩ : ∃ b, b = w.heap.size + 1 := ⟨_, rfl⟩
  obtain ⟨nb, hnb⟩ : ∃ b, b = w.heap.size + 1 + 1 := ⟨_, rfl⟩
  rw [← hnb, ← h6, ← h3] at hK0
  rw [← hnb, ← h6, ← h3]
  have HK0 := Lib.hid hK0
  have H3 := Lib.hid (And.intro h3 (And.intro h6 hnb))
  clear hK0 h3 h6 hnb
  go_wp2_with fail
  go_loopw [9, 24] (fun r i wr => ∃ (k : Nat), i = .int .i64 k ∧ k ≤ n ∧ Hid (KpW w n es A c b3 b6 nb kp (nmF kp k) k r wr)) (fun _ i _ => n - (intOf i).toNat)
  case atStart => exact ⟨0, rfl, Nat.zero_le _, HK0⟩
  case round =>
    clear HK0
    obtain ⟨k, rfl, hk, hK⟩ := hrel
    by_cases hlt : k < n
    · have i1 : (k : Int) < (n : Int) := by omega
      have i2 : (0 : Int) ≤ (k : Int) := by omega
      have ck := hK.out.row.cell (rowL_get (f := nmF kp k) hlt)
      have fk := hK.out.row.frozen k
      have hbB : B < wr.heap.size ∧ B ≠ nb := by have := HB.out.lt; have := hK.out.below.size; have := hK.out.ord; omega
      have cB := (hK.out.below.cell (p := ⟨B, k, none⟩) HB.out.lt).trans (HB.out.cell hlt)
      have cB1 : (wr.setCell ⟨nb, k, none⟩ (.int .i64 (-1))).cell? ⟨B, k, none⟩ = some (.bool (J k)) := (World.cell?_of_block (w := wr) (a := ⟨B, k, none⟩) (Below.heap_setCell _ _ _ _ (by dsimp only; exact hbB.2))).trans cB
      have hS1 := hK.out.set k (-1)
      have fk1 := hS1.row.frozen k
      have ck1 := hS1.row.cell (rowL_get (f := upd (nmF kp k) k (-1)) hlt)
      have hkk := HKP.out k
      obtain ⟨A0, c0, rfl, hc0, _⟩ := own_reads0 hK.out.own
      have hkn := rkN_le kp k
      cases hJ : J k with
      | true =>
        rw [hJ] at cB cB1 hkk
        have h9 := hS1.same (by simpa using hkk)
        rw [nmF_no (by simpa using hkk)] at h9
        have H9 := Lib.hid h9
        clear hS1 h9 hJ cB hkk
        go_wp2_with fail
        exact ⟨⟨k + 1, by go_num, by omega, H9⟩, by simp [intOf]; omega⟩
      | false =>
        rw [hJ] at cB cB1 hkk
        have hkk' : kp k = true := by simpa using hkk
        have hS2 := hS1.set k ((rkN kp k : Nat) : Int)
        rw [nmF_yes hkk'] at hS2
        have hS3 := hS2.go ((Below.refl _ _).alloc (Nat.le_refl _) (Obj.cells #[Value.int .i64 (k : Int)] 3))
        have HS3 := Lib.hid hS3
        have HKK := Lib.hid hkk'
        have hsz2 : nb + 1 ≤ wr.heap.size := by have := hK.out.ord; omega
        clear hS1 hS2 hS3 hJ cB hkk hkk'
        go_wp2_with (at_builtin; go_loud (
          refine wpList_app EI_int rfl (.tmp 41) (.tmp 43) rfl (nb + 1) (.slice A0 (rkN kp k) c0) (rkN kp k) (icells (natI (wasL k kp))) rfl HS3.out.own (some ⟨_, 0, none⟩) 1 1 [.int .i64 (k : Int)] rfl ?_ rfl ?_ ?_ ?_ ?_
          · have h := reads_new ((wr.setCell ⟨nb, k, none⟩ (.int .i64 (-1))).setCell ⟨nb, k, none⟩ (.int .i64 ((rkN kp k : Nat) : Int))) [.int .i64 (k : Int)] 3
            simp only [World.size_setCell] at h
            exact h
          · simp [Value.oneCell']
          · omega
          · simp; omega
          intro v4 w4 hown4 hg4 hat4
          have hS4 := Lib.hid (HS3.out.app HKK.out hown4 hg4)))
        exact ⟨⟨k + 1, by go_num, by omega, hS4⟩, by simp [intOf]; omega⟩
    · obtain rfl : k = n := by omega
      have i1 : ¬ (k : Int) < (k : Int) := by omega
      obtain ⟨wA, wc, rfl, hwc, hrw⟩ := own_reads0 hK.out.own
      have c3 := blkc0 hK.out.g3 0 _ rfl
      have c3' := blkc0 hK.out.g3 1 _ rfl
      clear hk hlt
      go_upto_region 13 with fail
      obtain ⟨b12, h12⟩ : ∃ b, b = wr.heap.size := ⟨_, rfl⟩
      have hE0 : (wr.alloc (Obj.cells #[Value.int .i64 ((rkN kp k : Nat) : Int), Value.slice none 0 0] 25)).heap[b12]? = some (.cells #[.int .i64 ((rkN kp k : Nat) : Int), .slice none 0 0] 25 (0, 0)) := by rw [h12]; exact heap_alloc_new _ _
      have hK1 := hK.out.go ((Below.refl _ _).alloc (Nat.le_refl _) (Obj.cells #[Value.int .i64 ((rkN kp k : Nat) : Int), Value.slice none 0 0] 25))
      have hsz12 : (wr.alloc (Obj.cells #[Value.int .i64 ((rkN kp k : Nat) : Int), Value.slice none 0 0] 25)).heap.size = b12 + 1 := by rw [World.size_alloc, h12]
      have hrw1 := hrw.below ((Below.refl wr.heap.size wr).alloc (Nat.le_refl _) (Obj.cells #[Value.int .i64 ((rkN kp k : Nat) : Int), Value.slice none 0 0] 25))
      have hbb : b12 < wr.heap.size + 1 ∧ nb < b12 := by have := hK.out.ord; omega
      have HWO : Hid (∀ g, (Value.slice wA (rkN kp k) wc).ownBlock = some g → nb + 1 ≤ g ∧ g < b12) := fun g hg => by have := own_lt0 hK.out.own g hg; omega
      rw [← h12]
      generalize hW1 : wr.alloc (Obj.cells #[Value.int .i64 ((rkN kp k : Nat) : Int), Value.slice none 0 0] 25) = W1 at hE0 hK1 hsz12 hrw1 ⊢
      have HE0 := Lib.hid hE0
      have HK1 := Lib.hid hK1
      have HSZ := Lib.hid hsz12
      have HRW := Lib.hid hrw1
      have hnb12 : nb < b12 := hbb.2
      have HR1 := Lib.hid (HR.out.below hK1.below)
      clear hE0 hK1 hsz12 hrw1 hW1 h12 hbb hK hrw c3 c3'
      clear wr
      have c3' := blkc0 HK1.out.g3 1 _ rfl
      go_wp2_with fail
      go_loopw [54] (fun i wr => ∃ (j : Nat) (A' : Option Addr) (c' : Nat), i = .int .i64 j ∧ j ≤ es.length ∧ (keptL kp (es.take j)).length ≤ c' ∧ Hid (wr.heap[b12]? = some (.cells #[.int .i64 ((rkN kp k : Nat) : Int), .slice A' (keptL kp (es.take j)).length c'] 25 (0, 0))) ∧ Hid (wr.ownsRow (b12 + 1) 49 2 (.slice A' (keptL kp (es.take j)).length c') (keptL kp (es.take j)).length (pcells (keptL kp (es.take j)))) ∧ Hid (Below b12 W1 wr)) (fun i _ => es.length - (intOf i).toNat)
      case atStart => exact ⟨0, none, 0, rfl, Nat.zero_le _, by simp [keptL], HE0, own_nil0 _ _ _ _, Lib.hid (Below.refl _ _)⟩
      case round =>
        clear HE0 c3'
        obtain ⟨j, A', c', rfl, hj, hc', hE, ho, hb⟩ := hrel
        have g3 := Lib.hid ((hb.out.block b3 (by have := HK1.out.ord; omega)).trans HK1.out.g3)
        have e1 := blkc0 hE.out 1 _ rfl
        by_cases hlt : j < es.length
        · obtain ⟨⟨x, y⟩, hxy⟩ : ∃ e, es[j]? = some e := ⟨es[j], by simp [hlt]⟩
          have hok := HP.out.ok _ (List.mem_of_getElem? hxy)
          simp only at hok
          obtain ⟨a, rfl⟩ : ∃ a' : Nat, x = (a' : Int) := ⟨x.toNat, by omega⟩
          obtain ⟨d, rfl⟩ : ∃ b' : Nat, y = (b' : Int) := ⟨y.toNat, by omega⟩
          have hBw : Below w.heap.size w wr := HK1.out.below.trans (hb.out.mono (by have := HK1.out.ord; omega))
          obtain ⟨eb, eo, hA1, hebl, cx, cy⟩ := (HR.out.below hBw).pair' j _ hxy
          simp only at cx cy
          rw [hA1]
          have han : a < k := by omega
          have hdn : d < k := by omega
          have hrow : RowI wr 3 nb (rowL k (nmF kp k)) := (hb.out.block nb hnb12).trans HK1.out.row
          have HOA := fun (W : World) (h : Below wr.heap.size wr W) => of_any (f := nmF kp k) han W (hrow.below h hrow.lt)
          have HOD := fun (W : World) (h : Below wr.heap.size wr W) => of_any (f := nmF kp k) hdn W (hrow.below h hrow.lt)
          have va : nmF kp k a = if kp a = true then ((rkN kp a : Nat) : Int) else -1 := by unfold nmF; rw [if_pos han]
          have vd : nmF kp k d = if kp d = true then ((rkN kp d : Nat) : Int) else -1 := by unfold nmF; rw [if_pos hdn]
          have htk := take_one es j _ hxy
          have hks := keptL_snoc kp (es.take j) ((a : Int), (d : Int))
          rw [← htk] at hks
          have hbk : bothK kp ((a : Int), (d : Int)) = (kp a && kp d) := by simp [bothK]
          have hnew : newE kp ((a : Int), (d : Int)) = (((rkN kp a : Nat) : Int), ((rkN kp d : Nat) : Int)) := by simp [newE]
          rw [hbk, hnew] at hks
          obtain ⟨L, hL⟩ : ∃ L, L = keptL kp (es.take j) := ⟨_, rfl⟩
          rw [← hL] at hks hE ho hc' e1
          have hLl : L.length ≤ j := by rw [hL]; have := keptL_len kp (es.take j); have := List.length_take_le j es; omega
          have HKS := Lib.hid hks
          have HLL := Lib.hid hLl
          have hes := HP.out.len
          have HES := Lib.hid hes
          have hb12l := heap_lt0 hE.out
          have HA1 := Lib.hid hA1
          have i2 : (j : Int) < (es.length : Int) := by omega
          have i3 : (0 : Int) ≤ (j : Int) := by omega
          have a1 : (0 : Int) ≤ (a : Int) := by omega
          have a2 : (0 : Int) ≤ (d : Int) := by omega
          have hj9 : j ≤ 65536 := by omega
          clear hxy hok hrow htk hks hbk hnew hA1 hL hLl hes
          by_cases ha : kp a = true
          · rw [va, if_pos ha, decide_eq_true (show (0 : Int) ≤ ((rkN kp a : Nat) : Int) by omega)] at HOA
            rw [ha] at HKS
            by_cases hd : kp d = true
            · rw [vd, if_pos hd, decide_eq_true (show (0 : Int) ≤ ((rkN kp d : Nat) : Int) by omega)] at HOD
              rw [hd] at HKS
              clear va vd ha hd
              obtain ⟨xa, hxa⟩ : ∃ x, x = ((rkN kp a : Nat) : Int) := ⟨_, rfl⟩
              obtain ⟨xd, hxd⟩ : ∃ x, x = ((rkN kp d : Nat) : Int) := ⟨_, rfl⟩
              rw [← hxa] at HOA HKS
              rw [← hxd] at HOD HKS
              clear hxa hxd
              go_wp2_with (first
                | (go_at_call 177; (with_reducible refine (HOA _ ?_).mono ?_); (repeat (first | with_reducible exact Below.refl _ _ | with_reducible assumption | with_reducible refine below_drewN0 ?_ _ | with_reducible refine Below.drew ?_ | with_reducible refine Below.alloc ?_ ?_ _ | with_reducible refine Below.setCell ?_ ?_ _ | go_size | exact Below.size (by assumption))); rintro e w5 ⟨rfl, hb5'⟩; have hb5 : Below wr.heap.size wr w5 := Below.trans (by (repeat (first | with_reducible exact Below.refl _ _ | with_reducible assumption | with_reducible refine below_drewN0 ?_ _ | with_reducible refine Below.drew ?_ | with_reducible refine Below.alloc ?_ ?_ _ | with_reducible refine Below.setCell ?_ ?_ _ | go_size | exact Below.size (by assumption)))) (hb5'.mono (by go_size)); obtain ⟨q0, q1, q2, q3, q4⟩ := blk2 ((hb5'.block wr.heap.size (by simp)).trans (heap_alloc_new _ _)))
                | (go_at_call 177; (with_reducible refine (HOD _ hb5).mono ?_); rintro e w6 ⟨rfl, hb6'⟩; have hb6 : Below wr.heap.size wr w6 := hb5.trans (hb6'.mono hb5.size); obtain ⟨r0, r1, r2, r3, r4⟩ := blk2 ((hb6.block b12 hb12l).trans hE.out))
                | (at_builtin; go_loud (
                   refine wpList_app EI_edge rfl (.tmp 77) (.tmp 81) rfl (b12 + 1) (.slice A' L.length c') L.length (pcells L) rfl ?_ (some ⟨_, 0, none⟩) 1 1 [.int .i64 xa, .int .i64 xd] rfl ?_ rfl ?_ ?_ ?_ ?_
                   · exact own_below0 ho.out (by (repeat (first | with_reducible exact Below.refl _ _ | with_reducible assumption | with_reducible refine below_drewN0 ?_ _ | with_reducible refine Below.drew ?_ | with_reducible refine Below.alloc ?_ ?_ _ | with_reducible refine Below.setCell ?_ ?_ _ | go_size | exact Below.size (by assumption))))
                   · exact reads_new _ [_, _] _
                   · simp [Value.oneCell']
                   · have := HLL.out; have := HES.out; omega
                   · have := hb6.size; go_size
                   intro v7 w7 hown7 hg7 hat7
                   have hl7 := own_lt0 ho.out
                   have hE6 := (hb6.block b12 hb12l).trans hE.out
                   have hE7 := Lib.hid ((hg7.block b12 (by have := heap_lt0 hE6; simp; omega) (fun h => by have := (hl7 _ h.symm).1; omega)).trans (heap_old hE6))
                   obtain ⟨u0, u1, u2, u3, u4⟩ := blk2 hE7.out
                   have hb7 : Below b12 wr w7 := below_app (w0 := w6.alloc (Obj.cells #[Value.int IntKind.i64 xa, Value.int IntKind.i64 xd] 49)) ((hb6.mono (by omega)).alloc (by have := hb6.size; omega) _) hg7 (by have := hb6.size; simp; omega) (fun g hg => by have := (hl7 g hg).1; omega)
                   obtain ⟨A7, c7, rfl, hl7', hrd7⟩ := own_reads0 hown7)))
              have hl9 : (keptL kp (es.take (j + 1))) = L ++ [(xa, xd)] := by rw [HKS.out]; simp
              have hne : ∀ g, g ≠ b12 → (w7.setCell ⟨b12, 1, none⟩ (Value.slice A7 (L.length + 1) c7)).heap[g]? = w7.heap[g]? := fun g hg => Below.heap_setCell _ _ _ _ hg
              have hl10 : (L ++ [(xa, xd)]).length = L.length + 1 := by simp
              refine ⟨⟨j + 1, A7, c7, by go_num, by omega, by rw [hl9, hl10]; exact hl7', ?_, ?_, Lib.hid ((hb.out.trans hb7).setCell (p := ⟨b12, 1, none⟩) (Nat.le_refl _) _)⟩, by simp [intOf]; omega⟩
              · rw [hl9, hl10]
                have h1 := hE7.out
                exact Lib.hid (by simp [World.setCell, Array.getElem?_modify, h1])
              · rw [hl9, hl10]
                have h1 := own_far (w' := w7.setCell ⟨b12, 1, none⟩ (Value.slice A7 (L.length + 1) c7)) hown7 fun g hg => hne g (by have := (own_lt0 hown7 g hg).1; omega)
                exact Lib.hid (own_cast h1 (Nat.le_refl _) rfl (by simp [pcells]))
            · rw [vd, if_neg hd, decide_eq_false (show ¬ (0 : Int) ≤ -1 by omega)] at HOD
              rw [show kp d = false by simpa using hd] at HKS
              clear va vd ha hd
              obtain ⟨xa, hxa⟩ : ∃ x, x = ((rkN kp a : Nat) : Int) := ⟨_, rfl⟩
              rw [← hxa] at HOA
              clear hxa
              (go_wp2_with (first | (go_at_call 177; (with_reducible refine (HOA _ ?_).mono ?_); (repeat (first | with_reducible exact Below.refl _ _ | with_reducible assumption | with_reducible refine below_drewN0 ?_ _ | with_reducible refine Below.drew ?_ | with_reducible refine Below.alloc ?_ ?_ _ | with_reducible refine Below.setCell ?_ ?_ _ | go_size | exact Below.size (by assumption))); rintro e w5 ⟨rfl, hb5'⟩; have hb5 : Below wr.heap.size wr w5 := Below.trans (by (repeat (first | with_reducible exact Below.refl _ _ | with_reducible assumption | with_reducible refine below_drewN0 ?_ _ | with_reducible refine Below.drew ?_ | with_reducible refine Below.alloc ?_ ?_ _ | with_reducible refine Below.setCell ?_ ?_ _ | go_size | exact Below.size (by assumption)))) (hb5'.mono (by go_size)); obtain ⟨q0, q1, q2, q3, q4⟩ := blk2 ((hb5'.block wr.heap.size (by simp)).trans (heap_alloc_new _ _))) | (go_at_call 177; (with_reducible refine (HOD _ hb5).mono ?_); rintro e w6 ⟨rfl, hb6'⟩; have hb6 : Below wr.heap.size wr w6 := hb5.trans (hb6'.mono hb5.size); obtain ⟨r0, r1, r2, r3, r4⟩ := blk2 ((hb6.block b12 hb12l).trans hE.out)))
               have hl9 : (keptL kp (es.take (j + 1))) = L := by rw [HKS.out]; simp
               refine ⟨⟨j + 1, A', c', by go_num, by omega, by rw [hl9]; exact hc', ?_, ?_, Lib.hid (hb.out.trans (hb6.mono (by omega)))⟩, by simp [intOf]; omega⟩
               · rw [hl9]; exact Lib.hid ((hb6.block b12 hb12l).trans hE.out)
               · rw [hl9]; exact Lib.hid (own_below0 ho.out hb6))
          · rw [va, if_neg ha, decide_eq_false (show ¬ (0 : Int) ≤ -1 by omega)] at HOA
            rw [show kp a = false by simpa using ha] at HKS
            obtain ⟨bd, hbd⟩ : ∃ (bd : Bool), bd = decide (0 ≤ nmF kp k d) := ⟨_, rfl⟩
            rw [← hbd] at HOD
            obtain ⟨xd, hxd⟩ : ∃ (xd : Int), xd = nmF kp k d := ⟨_, rfl⟩
            rw [← hxd] at HOD
            clear va vd ha hxd hbd
            (go_wp2_with (first | (go_at_call 177; (with_reducible refine (HOA _ ?_).mono ?_); (repeat (first | with_reducible exact Below.refl _ _ | with_reducible assumption | with_reducible refine below_drewN0 ?_ _ | with_reducible refine Below.drew ?_ | with_reducible refine Below.alloc ?_ ?_ _ | with_reducible refine Below.setCell ?_ ?_ _ | go_size | exact Below.size (by assumption))); rintro e w5 ⟨rfl, hb5'⟩; have hb5 : Below wr.heap.size wr w5 := Below.trans (by (repeat (first | with_reducible exact Below.refl _ _ | with_reducible assumption | with_reducible refine below_drewN0 ?_ _ | with_reducible refine Below.drew ?_ | with_reducible refine Below.alloc ?_ ?_ _ | with_reducible refine Below.setCell ?_ ?_ _ | go_size | exact Below.size (by assumption)))) (hb5'.mono (by go_size)); obtain ⟨q0, q1, q2, q3, q4⟩ := blk2 ((hb5'.block wr.heap.size (by simp)).trans (heap_alloc_new _ _))) | (go_at_call 177; (with_reducible refine (HOD _ hb5).mono ?_); rintro e w6 ⟨rfl, hb6'⟩; have hb6 : Below wr.heap.size wr w6 := hb5.trans (hb6'.mono hb5.size); obtain ⟨r0, r1, r2, r3, r4⟩ := blk2 ((hb6.block b12 hb12l).trans hE.out)))
             have hl9 : (keptL kp (es.take (j + 1))) = L := by rw [HKS.out]; simp
             refine ⟨⟨j + 1, A', c', by go_num, by omega, by rw [hl9]; exact hc', ?_, ?_, Lib.hid (hb.out.trans (hb6.mono (by omega)))⟩, by simp [intOf]; omega⟩
             · rw [hl9]; exact Lib.hid ((hb6.block b12 hb12l).trans hE.out)
             · rw [hl9]; exact Lib.hid (own_below0 ho.out hb6))
        · obtain rfl : j = es.length := by omega
          rw [List.take_length] at hc' hE ho e1
          have i2 : ¬ (es.length : Int) < (es.length : Int) := by omega
          have e0 := blkc0 hE.out 0 _ rfl
          have g6 := (hb.out.block b6 (by have := HK1.out.ord; omega)).trans HK1.out.g6
          obtain ⟨q0, q1, q2, q3, q4⟩ := blk2 g6
          have hord := HK1.out.ord
          have hbW := HK1.out.below
          have HF := Lib.hid (And.intro g6 (And.intro hord hbW))
          clear g6 hord hbW hlt hj
          go_wp2_with fail
          obtain ⟨g6, hord, hbW⟩ := HF.out
          have hblk := heap_set2 g6 (.int .i64 ((rkN kp k : Nat) : Int)) (.slice A' (keptL kp es).length c')
          have z0 := blkc0 hblk 0 _ rfl
          have z1 := blkc0 hblk 1 _ rfl
          refine bodyPost_ret (v := .tuple #[.agg #[.int .i64 ((rkN kp k : Nat) : Int), .slice A' (keptL kp es).length c'], .slice wA (rkN kp k) wc]) (by simp [results, Try.results151, go_sem, z0, z1]) rfl ?_
          refine ⟨A', c', wA, wc, rfl, hc', hwc, ?_, ?_, fun q hq => ?_, fun q hq => ?_, ?_⟩
          · exact (own_reads1 (own_set (a := ⟨b6, 1, none⟩) (own_set (a := ⟨b6, 0, none⟩) ho.out (by simp only; omega) _) (by simp only; omega) _)).1
          · have h1 := own_far (w' := (wr.setCell ⟨b6, 0, none⟩ (.int .i64 ((rkN kp k : Nat) : Int))).setCell ⟨b6, 1, none⟩ (.slice A' (keptL kp es).length c')) HK1.out.own fun g hg => by
              have := HWO.out g hg
              rw [Below.heap_setCell _ _ _ _ (by dsimp only; omega), Below.heap_setCell _ _ _ _ (by dsimp only; omega)]
              exact hb.out.block g this.2
            exact (own_reads1 h1).1
          · have := (own_lt0 ho.out q.block (by rw [hq]; rfl)).1; omega
          · have := (HWO.out q.block (by rw [hq]; rfl)).1; omega
          · exact ((hbW.trans (hb.out.mono (by omega))).setCell (p := ⟨b6, 0, none⟩) (by simp only; omega) _).setCell (p := ⟨b6, 1, none⟩) (by simp only; omega) _
end Go.Proofs.Ytgddfmfiiodgbaa

/- sub.Without of one vertex, critical.Missing. -/
namespace Go.Proofs.Ytgddfmfiiodgbaa
open Go Go.RowKit
set_option maxRecDepth 100000
set_option linter.unusedVariables false
set_option linter.unusedSimpArgs false

theorem Reads.setFar {w : World} {A : Option Addr} {cs : List Value} (h : Reads w A cs) {g : Nat} (hg : ∀ q, A = some q → q.block ≠ g) (i : Nat) (v : Value) : Reads (w.setCell ⟨g, i, none⟩ v) A cs := by
  rcases h with h | ⟨b, o, h1, h2, h3⟩
  · exact .inl h
  · have hne := hg _ h1
    exact .inr ⟨b, o, h1, by rw [World.size_setCell]; exact h2, fun j x hj => (World.cell?_of_block (w := w) (a := ⟨b, o + j, none⟩) (Below.heap_setCell _ _ _ _ (by dsimp only; exact hne))).trans (h3 j x hj)⟩

def kpV (v x : Nat) : Bool := !decide (x = v)
def WoPost (n : Nat) (es : List (Int × Int)) (v : Nat) (w : World) (e : Ending) (w' : World) : Prop :=
  ∃ A' c' wA wc, e = .returned (.tuple #[.agg #[.int .i64 ((rkN (kpV v) n : Nat) : Int), .slice A' (keptL (kpV v) es).length c'], .slice wA (rkN (kpV v) n) wc, .int .i64 0]) ∧ (keptL (kpV v) es).length ≤ c' ∧ rkN (kpV v) n ≤ wc ∧ Reads w' A' (pcells (keptL (kpV v) es)) ∧ Reads w' wA (icells (natI (wasL n (kpV v)))) ∧ Below w.heap.size w w'

set_option maxHeartbeats 1000000 in
theorem without_one {n v : Nat} {es : List (Int × Int)} (hP : RightP n es) (hv : v < n) (A : Option Addr) (c pb : Nat) (w : World) (hr : Reads w A (pcells es)) (hc : es.length ≤ c) (hrp : RowI w 3 pb [(v : Int)]) :
    Calls Try.prog 107 #[.agg #[.int .i64 (n : Int), .slice A es.length c], .slice (some ⟨pb, 0, none⟩) 1 1] w (WoPost n es v w) := by
  have HNM := fun (W : World) (h : Below w.heap.size w W) => named_one hP hv A c pb W (hr.below h) hc (hrp.below h hrp.lt)
  have HKE := fun (W : World) (B : Nat) (h : Reads W A (pcells es)) (hB : RowB W B n (fun x => decide (x = v))) => kept_any (kpV v) (fun x => rfl) hP A c B W h hc hB
  have HR := Lib.hid hr
  clear hr hrp hP
  go_enter Try.func107, Try.ntmps107
  go_upto_region 1 with fail
  obtain ⟨W0, hW0⟩ : ∃ W0, W0 = (w.alloc (Obj.cells #[Value.int IntKind.i64 (n : Int), Value.slice A es.length c] 25)).alloc (Obj.cells #[Value.int IntKind.i64 0, Value.slice none 0 0] 25) := ⟨_, rfl⟩
  rw [← hW0]
  have hX2 : Box2 w w.heap.size (.int .i64 (n : Int)) (.slice A es.length c) 25 W0 := by rw [hW0]; exact (Box2.new (Below.refl _ _) _ _ _).old _
  have hX4 : Box2 w (w.heap.size + 1) (.int .i64 0) (.slice none 0 0) 25 W0 := by
    rw [hW0]
    have h := Box2.new (w := w) (wc := w.alloc (Obj.cells #[Value.int IntKind.i64 (n : Int), Value.slice A es.length c] 25)) ((Below.refl _ _).alloc (Nat.le_refl _) _) (.int .i64 0) (.slice none 0 0) 25
    rw [World.size_alloc] at h
    exact h
  clear hW0
  obtain ⟨b4, h4⟩ : ∃ b, b = w.heap.size + 1 := ⟨_, rfl⟩
  rw [← h4] at hX4
  rw [← h4]
  have hb4 : w.heap.size < b4 := by omega
  clear h4
  have c0 := hX2.c0
  have c1 := hX2.c1
  have HN0 := HNM W0 hX2.below
  go_upto_region 2 with (go_at_call 150; (refine HN0.mono ?_; rintro e w1 ⟨B, rfl, hB, hrow, hb1⟩))
  have hX21 := hX2.go hb1
  have hX41 := hX4.go hb1
  have HK1 := HKE w1 B (HR.out.below hX21.below) hrow
  have d0 := hX21.c0
  have d1 := hX21.c1
  clear c0 c1 hX2 hX4 HN0 hrow hb1 HNM HKE
  go_upto_region 5 with (go_at_call 151; (refine HK1.mono ?_; rintro e w2 ⟨A', c', wA, wc, rfl, hc', hwc, hr1, hr2, hq1, hq2, hb2⟩))
  have hw1 : b4 < w1.heap.size := hX41.lt
  have hX42 := (hX41.go hb2).old (Obj.cells #[Value.int .i64 ((rkN (kpV v) n : Nat) : Int), Value.slice A' (keptL (kpV v) es).length c'] 25)
  have hG9 := Box2.new (hX41.go hb2).below (.int .i64 ((rkN (kpV v) n : Nat) : Int)) (.slice A' (keptL (kpV v) es).length c') 25
  have hr3 := hr1.below ((Below.refl w2.heap.size w2).alloc (Nat.le_refl _) (Obj.cells #[Value.int .i64 ((rkN (kpV v) n : Nat) : Int), Value.slice A' (keptL (kpV v) es).length c'] 25))
  have hr4 := hr2.below ((Below.refl w2.heap.size w2).alloc (Nat.le_refl _) (Obj.cells #[Value.int .i64 ((rkN (kpV v) n : Nat) : Int), Value.slice A' (keptL (kpV v) es).length c'] 25))
  have hr5 := (hr3.setFar (g := b4) (fun q hq => by have := hq1 q hq; omega) 0 (.int .i64 ((rkN (kpV v) n : Nat) : Int))).setFar (g := b4) (fun q hq => by have := hq1 q hq; omega) 1 (.slice A' (keptL (kpV v) es).length c')
  have hr6 := (hr4.setFar (g := b4) (fun q hq => by have := hq2 q hq; omega) 0 (.int .i64 ((rkN (kpV v) n : Nat) : Int))).setFar (g := b4) (fun q hq => by have := hq2 q hq; omega) 1 (.slice A' (keptL (kpV v) es).length c')
  generalize w2.alloc (Obj.cells #[Value.int .i64 ((rkN (kpV v) n : Nat) : Int), Value.slice A' (keptL (kpV v) es).length c'] 25) = w3 at *
  have HFIN := Lib.hid (And.intro hr5 (And.intro hr6 hX42))
  have y0 := hG9.c0
  have y1 := hG9.c1
  have x0 := hX42.c0
  have x1 := hX42.c1
  have f0 := hX42.f0 0
  have f1 := hX42.f0 1
  clear hr1 hr2 hr3 hr4 hr5 hr6 hq1 hq2 hX42 hX41 hX21 hG9 hb2 HK1 d0 d1
  go_wp2_with fail
  obtain ⟨hr5, hr6, hX42⟩ := HFIN.out
  have hblk := heap_set2 hX42.blk (.int .i64 ((rkN (kpV v) n : Nat) : Int)) (.slice A' (keptL (kpV v) es).length c')
  have z0 := blkc0 hblk 0 _ rfl
  have z1 := blkc0 hblk 1 _ rfl
  refine bodyPost_ret (v := .tuple #[.agg #[.int .i64 ((rkN (kpV v) n : Nat) : Int), .slice A' (keptL (kpV v) es).length c'], .slice wA (rkN (kpV v) n) wc, .int .i64 0]) (by simp [results, Try.results107, go_sem, z0, z1]) rfl ?_
  exact ⟨A', c', wA, wc, rfl, hc', hwc, hr5, hr6, (hX42.below.setCell (p := ⟨b4, 0, none⟩) (by simp only; omega) _).setCell (p := ⟨b4, 1, none⟩) (by simp only; omega) _⟩
end Go.Proofs.Ytgddfmfiiodgbaa
