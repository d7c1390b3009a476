/- The walk of Add, the document's answer. -/
import Derived.Test.YtgddfmfiiodgbaaU30
import Derived.Test.YtgddfmfiiodgbaaU02
namespace Go.Proofs.Ytgddfmfiiodgbaa
open Go Go.RowKit
set_option maxRecDepth 100000
set_option linter.unusedVariables false
set_option linter.unusedSimpArgs false

/-- What Add leaves: a graph with an edge more, or why not. -/
def AddPost (n : Int) (es : List (Int × Int)) (a b : Int) (w : World) (e : Ending) (w' : World) : Prop :=
  (addErr n es a b ≠ 0 ∧ e = .returned (.tuple #[.agg #[.int .i64 0, .slice none 0 0], .int .i64 (addErr n es a b)]) ∧ Below w.heap.size w w') ∨
  (addErr n es a b = 0 ∧ ∃ v, e = .returned (.tuple #[.agg #[.int .i64 n, v], .int .i64 0]) ∧ w'.ownsRow w.heap.size 49 2 v (es.length + 1) (pcells (putE es (min a b, max a b))) ∧ Below w.heap.size w w')

theorem AddPost.err {n : Int} {es : List (Int × Int)} {a b : Int} {w w' : World} {e : Ending} (k : Int) (h : addErr n es a b = k) (hk : k ≠ 0) (he : e = .returned (.tuple #[.agg #[.int .i64 0, .slice none 0 0], .int .i64 k])) (hb : Below w.heap.size w w') : AddPost n es a b w e w' :=
  .inl ⟨by rw [h]; exact hk, by rw [h]; exact he, hb⟩

theorem put_slice (es : List (Int × Int)) (x y : Int) (A : Option Addr) (c : Nat) (w : World) (hr : Reads w A (pcells es)) (hc : es.length ≤ c) (hm : es.length ≤ 100000) :
    Calls Try.prog 114 #[.slice A es.length c, .agg #[.int .i64 x, .int .i64 y]] w fun e w' => ∃ A' c', e = .returned (.slice A' (es.length + 1) c') ∧ w'.ownsRow w.heap.size 49 2 (.slice A' (es.length + 1) c') (es.length + 1) (pcells (putE es (x, y))) ∧ Below w.heap.size w w' :=
  (put_any es x y A c w hr hc hm).mono fun e w' ⟨v, he, ho, hb⟩ => by
    obtain ⟨A', c', rfl, _⟩ := own_reads0 ho
    exact ⟨A', c', he, ho, hb⟩


set_option maxHeartbeats 2000000 in
theorem refAdd (n a b : Int) (es : List (Int × Int)) (A : Option Addr) (c : Nat) (w : World) (hr : Reads w A (pcells es)) (hc : es.length ≤ c) (hm : es.length ≤ 4611686018427387903) :
    Calls Try.prog 59 #[.agg #[.int .i64 n, .slice A es.length c], .int .i64 a, .int .i64 b] w (AddPost n es a b w) := by
  have HRt := fun W hR => refRight n es A c W hR hc hm
  have HIa : ∀ W, Calls Try.prog 82 #[.agg #[.int .i64 n, .slice A es.length c], .int .i64 a] W fun e w' => e = .returned (.bool (isB n a)) ∧ Below W.heap.size W w' := fun W => refIs_any n a A es.length c W
  have HIb : ∀ W, Calls Try.prog 82 #[.agg #[.int .i64 n, .slice A es.length c], .int .i64 b] W fun e w' => e = .returned (.bool (isB n b)) ∧ Below W.heap.size W w' := fun W => refIs_any n b A es.length c W
  have HH := fun W hR => refHas n a b es A c W hR hc hm
  have HE : addErr n es a b = if rightB n es = false then 3 else if isB n a = false then 4 else if isB n b = false then 4 else if a = b then 5 else if hasB n es a b = true then 6 else if 65536 ≤ es.length then 8 else 0 := rfl
  have HL : rightB n es = true → es.length ≤ 65536 := fun h => by unfold rightB at h; simp at h; omega
  generalize rightB n es = b1 at HRt HE HL
  generalize isB n a = b2 at HIa HE
  generalize isB n b = b3 at HIb HE
  generalize hasB n es a b = b4 at HH HE
  have HE1 := Lib.hid HE
  clear HE
  go_enter Try.func59, Try.ntmps59
  go_wp2_with fail
  generalize hW : (w.alloc (Obj.cells #[Value.int IntKind.i64 n, Value.slice A es.length c] 25)).alloc (Obj.cells #[Value.int IntKind.i64 0, Value.slice none 0 0] 25) = W
  have hbW : Below w.heap.size w W := by rw [← hW]; (repeat (first | with_reducible exact Below.refl _ _ | with_reducible assumption | with_reducible refine below_drewN0 ?_ _ | with_reducible refine Below.drew ?_ | with_reducible refine Below.alloc ?_ ?_ _ | with_reducible refine Below.setCell ?_ ?_ _ | go_size | exact Below.size (by assumption)))
  have hr1 := hr.below hbW
  have hA0 : W.heap[w.heap.size]? = some (.cells #[Value.int IntKind.i64 n, Value.slice A es.length c] 25 (0, 0)) := by rw [← hW]; exact heap_old (heap_alloc_new w _)
  have hR0 : W.heap[w.heap.size + 1]? = some (.cells #[Value.int IntKind.i64 0, Value.slice none 0 0] 25 (0, 0)) := by
    rw [← hW]
    have := heap_alloc_new (w.alloc (Obj.cells #[Value.int IntKind.i64 n, Value.slice A es.length c] 25)) (Obj.cells #[Value.int IntKind.i64 0, Value.slice none 0 0] 25)
    rwa [World.size_alloc] at this
  have hsz : W.heap.size = w.heap.size + 2 := by rw [← hW]; simp
  have HA := Lib.hid (fun w' (h : Below W.heap.size W w') => blk2 ((h.block w.heap.size (by omega)).trans hA0))
  have HR := Lib.hid (fun w' (h : Below W.heap.size W w') => blk2 ((h.block (w.heap.size + 1) (by omega)).trans hR0))
  clear hW hA0 hR0 hr
  cases b1 with
  | false =>
    go_wp2_with (first | (go_at_call 44; refine (HRt _ ?_).mono ?_; exact hr1; rintro e w1 ⟨rfl, hb1⟩; obtain ⟨a0, a1, a2, a3, a4⟩ := HA.out _ hb1; obtain ⟨r0, r1, r2, r3, r4⟩ := HR.out _ hb1))
    refine bodyPost_ret (v := .tuple #[.agg #[.int .i64 0, .slice none 0 0], .int .i64 3]) (by simp [results, Try.results59, go_sem, r0, r1]) rfl ?_
    exact .err 3 (by simpa using HE1.out) (by omega) rfl (hbW.trans (Below.trans (hb1.mono (by omega)) (by (repeat (first | with_reducible exact Below.refl _ _ | with_reducible assumption | with_reducible refine below_drewN0 ?_ _ | with_reducible refine Below.drew ?_ | with_reducible refine Below.alloc ?_ ?_ _ | with_reducible refine Below.setCell ?_ ?_ _ | go_size | exact Below.size (by assumption))))))
  | true =>
  cases b2 with
  | false =>
    go_wp2_with (first | (go_at_call 44; refine (HRt _ ?_).mono ?_; exact hr1; rintro e w1 ⟨rfl, hb1⟩; obtain ⟨a0, a1, a2, a3, a4⟩ := HA.out _ hb1; obtain ⟨r0, r1, r2, r3, r4⟩ := HR.out _ hb1) | (go_at_call 82; (with_reducible refine (HIa _).mono ?_); rintro e w2 ⟨rfl, hb2⟩; have hB2 := hb1.trans (hb2.mono hb1.size); obtain ⟨b0, b1, b2, b3, b4⟩ := HA.out _ hB2; obtain ⟨s0, s1, s2, s3, s4⟩ := HR.out _ hB2))
    refine bodyPost_ret (v := .tuple #[.agg #[.int .i64 0, .slice none 0 0], .int .i64 4]) (by simp [results, Try.results59, go_sem, s0, s1]) rfl ?_
    exact .err 4 (by simpa using HE1.out) (by omega) rfl (hbW.trans (Below.trans (hB2.mono (by omega)) (by (repeat (first | with_reducible exact Below.refl _ _ | with_reducible assumption | with_reducible refine below_drewN0 ?_ _ | with_reducible refine Below.drew ?_ | with_reducible refine Below.alloc ?_ ?_ _ | with_reducible refine Below.setCell ?_ ?_ _ | go_size | exact Below.size (by assumption))))))
  | true =>
  cases b3 with
  | false =>
    go_wp2_with (first | (go_at_call 44; refine (HRt _ ?_).mono ?_; exact hr1; rintro e w1 ⟨rfl, hb1⟩; obtain ⟨a0, a1, a2, a3, a4⟩ := HA.out _ hb1; obtain ⟨r0, r1, r2, r3, r4⟩ := HR.out _ hb1) | (go_at_call 82; (with_reducible refine (HIb _).mono ?_); rintro e w3 ⟨rfl, hb3⟩; have hB3 := hB2.trans (hb3.mono hB2.size); obtain ⟨c0, c1, c2, c3, c4⟩ := HA.out _ hB3; obtain ⟨t0, t1, t2, t3, t4⟩ := HR.out _ hB3) | (go_at_call 82; (with_reducible refine (HIa _).mono ?_); rintro e w2 ⟨rfl, hb2⟩; have hB2 := hb1.trans (hb2.mono hb1.size); obtain ⟨b0, b1, b2, b3, b4⟩ := HA.out _ hB2; obtain ⟨s0, s1, s2, s3, s4⟩ := HR.out _ hB2))
    refine bodyPost_ret (v := .tuple #[.agg #[.int .i64 0, .slice none 0 0], .int .i64 4]) (by simp [results, Try.results59, go_sem, t0, t1]) rfl ?_
    exact .err 4 (by simpa using HE1.out) (by omega) rfl (hbW.trans (Below.trans (hB3.mono (by omega)) (by (repeat (first | with_reducible exact Below.refl _ _ | with_reducible assumption | with_reducible refine below_drewN0 ?_ _ | with_reducible refine Below.drew ?_ | with_reducible refine Below.alloc ?_ ?_ _ | with_reducible refine Below.setCell ?_ ?_ _ | go_size | exact Below.size (by assumption))))))
  | true =>
  by_cases hab : a = b
  · have hab' : (a == b) = true := by simpa using hab
    have HE2 : Hid (addErr n es a b = 5) := by have := HE1.out; unfold Hid; simpa [hab] using this
    clear hab
    go_wp2_with (first | (go_at_call 44; refine (HRt _ ?_).mono ?_; exact hr1; rintro e w1 ⟨rfl, hb1⟩; obtain ⟨a0, a1, a2, a3, a4⟩ := HA.out _ hb1; obtain ⟨r0, r1, r2, r3, r4⟩ := HR.out _ hb1) | (go_at_call 82; (with_reducible refine (HIb _).mono ?_); rintro e w3 ⟨rfl, hb3⟩; have hB3 := hB2.trans (hb3.mono hB2.size); obtain ⟨c0, c1, c2, c3, c4⟩ := HA.out _ hB3; obtain ⟨t0, t1, t2, t3, t4⟩ := HR.out _ hB3) | (go_at_call 82; (with_reducible refine (HIa _).mono ?_); rintro e w2 ⟨rfl, hb2⟩; have hB2 := hb1.trans (hb2.mono hb1.size); obtain ⟨b0, b1, b2, b3, b4⟩ := HA.out _ hB2; obtain ⟨s0, s1, s2, s3, s4⟩ := HR.out _ hB2))
    refine bodyPost_ret (v := .tuple #[.agg #[.int .i64 0, .slice none 0 0], .int .i64 5]) (by simp [results, Try.results59, go_sem, t0, t1]) rfl ?_
    exact .err 5 HE2.out (by omega) rfl (hbW.trans (Below.trans (hB3.mono (by omega)) (by (repeat (first | with_reducible exact Below.refl _ _ | with_reducible assumption | with_reducible refine below_drewN0 ?_ _ | with_reducible refine Below.drew ?_ | with_reducible refine Below.alloc ?_ ?_ _ | with_reducible refine Below.setCell ?_ ?_ _ | go_size | exact Below.size (by assumption))))))
  have hab' : (a == b) = false := by simpa using hab
  cases b4 with
  | true =>
    have HE2 : Hid (addErr n es a b = 6) := by have := HE1.out; unfold Hid; simpa [hab] using this
    go_wp2_with (first | (go_at_call 44; refine (HRt _ ?_).mono ?_; exact hr1; rintro e w1 ⟨rfl, hb1⟩; obtain ⟨a0, a1, a2, a3, a4⟩ := HA.out _ hb1; obtain ⟨r0, r1, r2, r3, r4⟩ := HR.out _ hb1) | (go_at_call 82; (with_reducible refine (HIb _).mono ?_); rintro e w3 ⟨rfl, hb3⟩; have hB3 := hB2.trans (hb3.mono hB2.size); obtain ⟨c0, c1, c2, c3, c4⟩ := HA.out _ hB3; obtain ⟨t0, t1, t2, t3, t4⟩ := HR.out _ hB3) | (go_at_call 82; (with_reducible refine (HIa _).mono ?_); rintro e w2 ⟨rfl, hb2⟩; have hB2 := hb1.trans (hb2.mono hb1.size); obtain ⟨b0, b1, b2, b3, b4⟩ := HA.out _ hB2; obtain ⟨s0, s1, s2, s3, s4⟩ := HR.out _ hB2) | (go_at_call 83; refine (HH _ ?_).mono ?_; exact hr1.below hB3; rintro e w4 ⟨rfl, hb4⟩; have hB4 := hB3.trans (hb4.mono hB3.size); obtain ⟨d0, d1, d2, d3, d4⟩ := HA.out _ hB4; obtain ⟨u0, u1, u2, u3, u4⟩ := HR.out _ hB4))
    refine bodyPost_ret (v := .tuple #[.agg #[.int .i64 0, .slice none 0 0], .int .i64 6]) (by simp [results, Try.results59, go_sem, u0, u1]) rfl ?_
    exact .err 6 HE2.out (by omega) rfl (hbW.trans (Below.trans (hB4.mono (by omega)) (by (repeat (first | with_reducible exact Below.refl _ _ | with_reducible assumption | with_reducible refine below_drewN0 ?_ _ | with_reducible refine Below.drew ?_ | with_reducible refine Below.alloc ?_ ?_ _ | with_reducible refine Below.setCell ?_ ?_ _ | go_size | exact Below.size (by assumption))))))
  | false =>
  have hl := HL rfl
  by_cases h6 : es.length = 65536
  · have HE2 : Hid (addErr n es a b = 8) := by have := HE1.out; unfold Hid; simpa [hab, h6] using this
    have h6' : decide ((65536 : Int) ≤ (es.length : Int)) = true := decide_eq_true (by omega)
    have h6'' := Lib.hid h6
    clear h6
    go_wp2_with (first | (go_at_call 44; refine (HRt _ ?_).mono ?_; exact hr1; rintro e w1 ⟨rfl, hb1⟩; obtain ⟨a0, a1, a2, a3, a4⟩ := HA.out _ hb1; obtain ⟨r0, r1, r2, r3, r4⟩ := HR.out _ hb1) | (go_at_call 82; (with_reducible refine (HIb _).mono ?_); rintro e w3 ⟨rfl, hb3⟩; have hB3 := hB2.trans (hb3.mono hB2.size); obtain ⟨c0, c1, c2, c3, c4⟩ := HA.out _ hB3; obtain ⟨t0, t1, t2, t3, t4⟩ := HR.out _ hB3) | (go_at_call 82; (with_reducible refine (HIa _).mono ?_); rintro e w2 ⟨rfl, hb2⟩; have hB2 := hb1.trans (hb2.mono hb1.size); obtain ⟨b0, b1, b2, b3, b4⟩ := HA.out _ hB2; obtain ⟨s0, s1, s2, s3, s4⟩ := HR.out _ hB2) | (go_at_call 83; refine (HH _ ?_).mono ?_; exact hr1.below hB3; rintro e w4 ⟨rfl, hb4⟩; have hB4 := hB3.trans (hb4.mono hB3.size); obtain ⟨d0, d1, d2, d3, d4⟩ := HA.out _ hB4; obtain ⟨u0, u1, u2, u3, u4⟩ := HR.out _ hB4))
    refine bodyPost_ret (v := .tuple #[.agg #[.int .i64 0, .slice none 0 0], .int .i64 8]) (by simp [results, Try.results59, go_sem, u0, u1]) rfl ?_
    exact .err 8 HE2.out (by omega) rfl (hbW.trans (Below.trans (hB4.mono (by omega)) (by (repeat (first | with_reducible exact Below.refl _ _ | with_reducible assumption | with_reducible refine below_drewN0 ?_ _ | with_reducible refine Below.drew ?_ | with_reducible refine Below.alloc ?_ ?_ _ | with_reducible refine Below.setCell ?_ ?_ _ | go_size | exact Below.size (by assumption))))))
  · have HE2 : Hid (addErr n es a b = 0) := by have := HE1.out; rw [if_neg (by simp), if_neg (by simp), if_neg (by simp), if_neg hab, if_neg (by simp), if_neg (by omega)] at this; exact this
    have h6' : decide ((65536 : Int) ≤ (es.length : Int)) = false := decide_eq_false (by omega)
    go_wp2_with (first | (go_at_call 44; refine (HRt _ ?_).mono ?_; exact hr1; rintro e w1 ⟨rfl, hb1⟩; obtain ⟨a0, a1, a2, a3, a4⟩ := HA.out _ hb1; obtain ⟨r0, r1, r2, r3, r4⟩ := HR.out _ hb1) | (go_at_call 82; (with_reducible refine (HIb _).mono ?_); rintro e w3 ⟨rfl, hb3⟩; have hB3 := hB2.trans (hb3.mono hB2.size); obtain ⟨c0, c1, c2, c3, c4⟩ := HA.out _ hB3; obtain ⟨t0, t1, t2, t3, t4⟩ := HR.out _ hB3) | (go_at_call 82; (with_reducible refine (HIa _).mono ?_); rintro e w2 ⟨rfl, hb2⟩; have hB2 := hb1.trans (hb2.mono hb1.size); obtain ⟨b0, b1, b2, b3, b4⟩ := HA.out _ hB2; obtain ⟨s0, s1, s2, s3, s4⟩ := HR.out _ hB2) | (go_at_call 83; refine (HH _ ?_).mono ?_; exact hr1.below hB3; rintro e w4 ⟨rfl, hb4⟩; have hB4 := hB3.trans (hb4.mono hB3.size); obtain ⟨d0, d1, d2, d3, d4⟩ := HA.out _ hB4; obtain ⟨u0, u1, u2, u3, u4⟩ := HR.out _ hB4))
    have hr4 := hr1.below hB4
    have HT := fun W => turned_any a b W
    obtain ⟨x, hx⟩ : ∃ x, x = min a b := ⟨_, rfl⟩
    obtain ⟨y, hy⟩ : ∃ y, y = max a b := ⟨_, rfl⟩
    rw [← hx, ← hy] at HT
    have HX := Lib.hid hx
    have HY := Lib.hid hy
    clear hx hy
    go_region_held3 (fun w' => w'.cell? ⟨w.heap.size, 0, none⟩ = some (.int .i64 n) ∧ w'.cell? ⟨w.heap.size, 1, none⟩ = some (.slice A es.length c)) (first | exact ⟨f0, f1⟩ | exact ⟨e0, e1⟩ | exact ⟨d0, d1⟩ | (simp [go_sem, *]; done))
      (first
        | (go_at_call 115; refine (HT _).mono ?_; rintro e w5 ⟨rfl, hb5⟩; have hB5 : Below W.heap.size W w5 := Below.trans (by (repeat (first | with_reducible exact Below.refl _ _ | with_reducible assumption | with_reducible refine below_drewN0 ?_ _ | with_reducible refine Below.drew ?_ | with_reducible refine Below.alloc ?_ ?_ _ | with_reducible refine Below.setCell ?_ ?_ _ | go_size | exact Below.size (by assumption)))) (hb5.mono (by have := hB4.size; go_size)); obtain ⟨e0, e1, e2, e3, e4⟩ := HA.out _ hB5; obtain ⟨y0, y1, y2, y3, y4⟩ := HR.out _ hB5)
        | (go_at_call 114; refine (put_slice es x y A c _ (hr1.below hB5) hc (by omega)).mono ?_; rintro e w6 ⟨A6, c6, rfl, ho6, hb6⟩; have hB6 : Below W.heap.size W w6 := Below.trans (by (repeat (first | with_reducible exact Below.refl _ _ | with_reducible assumption | with_reducible refine below_drewN0 ?_ _ | with_reducible refine Below.drew ?_ | with_reducible refine Below.alloc ?_ ?_ _ | with_reducible refine Below.setCell ?_ ?_ _ | go_size | exact Below.size (by assumption)))) (hb6.mono (by have := hB5.size; go_size)); obtain ⟨f0, f1, f2, f3, f4⟩ := HA.out _ hB6; obtain ⟨z0, z1, z2, z3, z4⟩ := HR.out _ hB6))
    go_wp2_with fail
    refine bodyPost_ret (v := .tuple #[.agg #[.int .i64 n, .slice A6 (es.length + 1) c6], .int .i64 0]) (by simp [results, Try.results59, go_sem, z0, z1]) rfl ?_
    refine .inr ⟨HE2.out, _, rfl, ?_, hbW.trans (Below.trans (hB6.mono (by omega)) (by (repeat (first | with_reducible exact Below.refl _ _ | with_reducible assumption | with_reducible refine below_drewN0 ?_ _ | with_reducible refine Below.drew ?_ | with_reducible refine Below.alloc ?_ ?_ _ | with_reducible refine Below.setCell ?_ ?_ _ | go_size | exact Below.size (by assumption)))))⟩
    have h5 := hB5.size
    rw [← HX.out, ← HY.out]
    exact own_cast (own_set (own_set ho6 (by dsimp only; omega) _) (by dsimp only; omega) _) (by omega) rfl rfl
end Go.Proofs.Ytgddfmfiiodgbaa

/- The walk of Small: a right graph of no more vertices and edges than are allowed. -/
namespace Go.Proofs.Ytgddfmfiiodgbaa
open Go Go.RowKit
set_option maxRecDepth 100000
set_option linter.unusedVariables false
set_option linter.unusedSimpArgs false

/-- A right graph, by value, that reads in the world. -/
def GraphPost (V E : Int) (w : World) (e : Ending) (w' : World) : Prop :=
  ∃ n es A c, e = .returned (.agg #[.int .i64 n, .slice A es.length c]) ∧ RightP n es ∧ n ≤ V ∧ (es.length : Int) ≤ E ∧ es.length ≤ c ∧ Reads w' A (pcells es) ∧ Below w.heap.size w w'

/-- As GraphPost; the row is its own. -/
def GraphPostO (V E : Int) (w : World) (e : Ending) (w' : World) : Prop :=
  ∃ n es A c, e = .returned (.agg #[.int .i64 n, .slice A es.length c]) ∧ RightP n es ∧ n ≤ V ∧ (es.length : Int) ≤ E ∧ es.length ≤ c ∧ w'.ownsRow w.heap.size 49 2 (.slice A es.length c) es.length (pcells es) ∧ Below w.heap.size w w'

theorem addAny (n a b : Int) (es : List (Int × Int)) (A : Option Addr) (c : Nat) (w : World) (hr : Reads w A (pcells es)) (hc : es.length ≤ c) (hm : es.length ≤ 4611686018427387903) :
    Calls Try.prog 59 #[.agg #[.int .i64 n, .slice A es.length c], .int .i64 a, .int .i64 b] w fun e w' => ∃ (n' : Int) (A' : Option Addr) (l' c' : Nat) (err : Int),
      e = .returned (.tuple #[.agg #[.int .i64 n', .slice A' l' c'], .int .i64 err]) ∧ Below w.heap.size w w' ∧
      Hid (err = addErr n es a b ∧ (err = 0 → n' = n ∧ l' = es.length + 1 ∧ l' ≤ c' ∧ w'.ownsRow w.heap.size 49 2 (.slice A' l' c') l' (pcells (putE es (min a b, max a b))))) :=
  (refAdd n a b es A c w hr hc hm).mono fun e w' h => by
    rcases h with ⟨h0, he, hb⟩ | ⟨h0, v, he, ho, hb⟩
    · exact ⟨0, none, 0, 0, _, he, hb, rfl, fun h => absurd h h0⟩
    · obtain ⟨A', c', rfl, hl, _⟩ := own_reads0 ho
      exact ⟨n, A', _, c', 0, he, hb, h0.symm, fun _ => ⟨rfl, rfl, hl, ho⟩⟩

theorem mod_u (x V : Int) (h0 : 0 ≤ V) (h1 : V ≤ 4096) : 0 ≤ wrap64 ((IntKind.u64.wrap x).tmod (V + 1)) ∧ wrap64 ((IntKind.u64.wrap x).tmod (V + 1)) ≤ V := by
  have h2 : 0 ≤ IntKind.u64.wrap x := by rw [IntKind.wrap_u64]; omega
  generalize IntKind.u64.wrap x = u at *
  have h3 := Int.tmod_nonneg (V + 1) h2
  have h4 := Int.tmod_lt_of_pos u (show 0 < V + 1 by omega)
  unfold wrap64
  omega


set_option maxHeartbeats 4000000 in
theorem small_own (n0 V E : Int) (ends : List Int) (Ae : Option Addr) (ce : Nat) (w : World) (hV : 0 ≤ V) (hV2 : V ≤ 4096) (hE : 0 ≤ E) (hE2 : E ≤ 60000) (hn1 : -9223372036854775808 ≤ n0) (hn2 : n0 ≤ 9223372036854775807)
    (hr : Reads w Ae (icells ends)) (hc : ends.length ≤ ce) (hm : ends.length ≤ 4611686018427387903) :
    Calls Try.prog 31 #[.int .i64 n0, .slice Ae ends.length ce, .int .i64 V, .int .i64 E] w (GraphPostO V E w) := by
  go_enter Try.func31, Try.ntmps31
  go_wp2_with fail
  have hN := mod_u n0 V hV hV2
  generalize wrap64 ((IntKind.u64.wrap n0).tmod (V + 1)) = N at hN ⊢
  generalize hW : (w.alloc (Obj.cells #[Value.int IntKind.i64 0, Value.slice none 0 0] 25)).alloc (Obj.cells #[Value.int IntKind.i64 N, Value.slice none 0 0] 25) = W
  have hbW : Below w.heap.size w W := by rw [← hW]; (repeat (first | with_reducible exact Below.refl _ _ | with_reducible assumption | with_reducible refine below_drewN0 ?_ _ | with_reducible refine Below.drew ?_ | with_reducible refine Below.alloc ?_ ?_ _ | with_reducible refine Below.setCell ?_ ?_ _ | go_size | exact Below.size (by assumption)))
  have hA0 : W.heap[w.heap.size]? = some (.cells #[Value.int IntKind.i64 0, Value.slice none 0 0] 25 (0, 0)) := by rw [← hW]; exact heap_old (heap_alloc_new w _)
  have hR0 : W.heap[w.heap.size + 1]? = some (.cells #[Value.int IntKind.i64 N, Value.slice none 0 0] 25 (0, 0)) := by
    rw [← hW]
    have := heap_alloc_new (w.alloc (Obj.cells #[Value.int IntKind.i64 0, Value.slice none 0 0] 25)) (Obj.cells #[Value.int IntKind.i64 N, Value.slice none 0 0] 25)
    rwa [World.size_alloc] at this
  have hsz : W.heap.size = w.heap.size + 2 := by rw [← hW]; simp
  clear hW
  go_loopw [10] (fun i wr => ∃ (k : Nat) (es : List (Int × Int)) (A : Option Addr) (c : Nat), i = .int .i64 k ∧ k ≤ 401 ∧ Hid (RightP N es ∧ (es.length : Int) ≤ E) ∧ es.length ≤ c ∧
    Hid (wr.heap[w.heap.size]? = some (.cells #[Value.int IntKind.i64 0, Value.slice none 0 0] 25 (0, 0))) ∧ Hid (wr.heap[w.heap.size + 1]? = some (.cells #[Value.int IntKind.i64 N, Value.slice A es.length c] 25 (0, 0))) ∧
    wr.ownsRow (w.heap.size + 2) 49 2 (.slice A es.length c) es.length (pcells es) ∧ Below w.heap.size w wr) (fun i _ => 402 - (intOf i).toNat)
  case atStart => exact ⟨0, [], none, 0, rfl, by omega, ⟨⟨hN.1, by omega, by simp, by simp, by simp⟩, by simpa using hE⟩, by simp, hA0, hR0, own_nil0 _ _ _ _, hbW⟩
  case round =>
    clear hA0 hR0 hbW hsz W
    obtain ⟨k, es, A, c, rfl, hk, hes, hc', hgA, hgR, how, hb⟩ := hrel
    have hr' := hr.below hb
    obtain ⟨a0, a1, a2, a3, a4⟩ := blk2 hgA.out
    obtain ⟨r0, r1, r2, r3, r4⟩ := blk2 hgR.out
    by_cases c1 : k + 1 < ends.length
    case neg =>
      have c1' : decide ((k : Int) + 1 < (ends.length : Int)) = false := decide_eq_false (by omega)
      (go_wp2_with fail
       refine bodyPost_ret (v := .agg #[.int .i64 N, .slice A es.length c]) (by simp [results, Try.results31, go_sem, a0, a1]) rfl ?_
       refine ⟨N, es, A, c, rfl, hes.out.1, hN.2, by have := hes.out.2; omega, hc', ?_, (by (repeat (first | with_reducible exact Below.refl _ _ | with_reducible assumption | with_reducible refine below_drewN0 ?_ _ | with_reducible refine Below.drew ?_ | with_reducible refine Below.alloc ?_ ?_ _ | with_reducible refine Below.setCell ?_ ?_ _ | go_size | exact Below.size (by assumption))))⟩
       exact own_cast (own_set (own_set how (a := ⟨w.heap.size, 0, none⟩) (by dsimp only; omega) (.int .i64 N)) (a := ⟨w.heap.size, 1, none⟩) (by dsimp only; omega) (.slice A es.length c)) (by omega) rfl rfl)
    have c1' : decide ((k : Int) + 1 < (ends.length : Int)) = true := decide_eq_true (by omega)
    by_cases c2 : (es.length : Int) < E
    case neg =>
      have c2' : decide ((es.length : Int) < E) = false := decide_eq_false c2
      (go_wp2_with fail
       refine bodyPost_ret (v := .agg #[.int .i64 N, .slice A es.length c]) (by simp [results, Try.results31, go_sem, a0, a1]) rfl ?_
       refine ⟨N, es, A, c, rfl, hes.out.1, hN.2, by have := hes.out.2; omega, hc', ?_, (by (repeat (first | with_reducible exact Below.refl _ _ | with_reducible assumption | with_reducible refine below_drewN0 ?_ _ | with_reducible refine Below.drew ?_ | with_reducible refine Below.alloc ?_ ?_ _ | with_reducible refine Below.setCell ?_ ?_ _ | go_size | exact Below.size (by assumption))))⟩
       exact own_cast (own_set (own_set how (a := ⟨w.heap.size, 0, none⟩) (by dsimp only; omega) (.int .i64 N)) (a := ⟨w.heap.size, 1, none⟩) (by dsimp only; omega) (.slice A es.length c)) (by omega) rfl rfl)
    have c2' : decide ((es.length : Int) < E) = true := decide_eq_true c2
    by_cases c3 : 0 < N
    case neg =>
      have c3' : decide (0 < N) = false := decide_eq_false c3
      (go_wp2_with fail
       refine bodyPost_ret (v := .agg #[.int .i64 N, .slice A es.length c]) (by simp [results, Try.results31, go_sem, a0, a1]) rfl ?_
       refine ⟨N, es, A, c, rfl, hes.out.1, hN.2, by have := hes.out.2; omega, hc', ?_, (by (repeat (first | with_reducible exact Below.refl _ _ | with_reducible assumption | with_reducible refine below_drewN0 ?_ _ | with_reducible refine Below.drew ?_ | with_reducible refine Below.alloc ?_ ?_ _ | with_reducible refine Below.setCell ?_ ?_ _ | go_size | exact Below.size (by assumption))))⟩
       exact own_cast (own_set (own_set how (a := ⟨w.heap.size, 0, none⟩) (by dsimp only; omega) (.int .i64 N)) (a := ⟨w.heap.size, 1, none⟩) (by dsimp only; omega) (.slice A es.length c)) (by omega) rfl rfl)
    have c3' : decide (0 < N) = true := decide_eq_true c3
    by_cases c4 : k < 400
    case neg =>
      have c4' : decide ((k : Int) < 400) = false := decide_eq_false (by omega)
      (go_wp2_with fail
       refine bodyPost_ret (v := .agg #[.int .i64 N, .slice A es.length c]) (by simp [results, Try.results31, go_sem, a0, a1]) rfl ?_
       refine ⟨N, es, A, c, rfl, hes.out.1, hN.2, by have := hes.out.2; omega, hc', ?_, (by (repeat (first | with_reducible exact Below.refl _ _ | with_reducible assumption | with_reducible refine below_drewN0 ?_ _ | with_reducible refine Below.drew ?_ | with_reducible refine Below.alloc ?_ ?_ _ | with_reducible refine Below.setCell ?_ ?_ _ | go_size | exact Below.size (by assumption))))⟩
       exact own_cast (own_set (own_set how (a := ⟨w.heap.size, 0, none⟩) (by dsimp only; omega) (.int .i64 N)) (a := ⟨w.heap.size, 1, none⟩) (by dsimp only; omega) (.slice A es.length c)) (by omega) rfl rfl)
    have c4' : decide ((k : Int) < 400) = true := decide_eq_true (by omega)
    obtain ⟨z1, hz1⟩ : ∃ z, ends[k]? = some z := ⟨ends[k]'(by omega), by simp⟩
    obtain ⟨z2, hz2⟩ : ∃ z, ends[k + 1]? = some z := ⟨ends[k + 1], by simp⟩
    obtain ⟨b, o, rfl, hbl, e1⟩ := hr'.int k z1 hz1
    obtain ⟨b', o', hbo, _, e2⟩ := hr'.int (k + 1) z2 hz2
    obtain ⟨rfl, rfl⟩ : b' = b ∧ o' = o := by simpa using hbo.symm
    clear hbo hz1 hz2
    have k0 : (0 : Int) ≤ (k : Int) + 1 := by omega
    have k1 : ((k : Int) + 1).toNat = k + 1 := by omega
    have hrE : Hid (∀ w', Below wr.heap.size wr w' → Reads w' A (pcells es)) := by
      obtain ⟨A2, c2, hA2, _, hrd⟩ := own_reads0 how
      simp at hA2
      obtain ⟨rfl, rfl⟩ := hA2
      exact fun w' h' => hrd.below h'
    have hwr := hb.size
    have i1 : (k : Int) < (ends.length : Int) := by omega
    have i2 : (k : Int) + 1 < (ends.length : Int) := by omega
    have n1 : (N == 0) = false := by simp; omega
    have n2 : ¬ N = 0 := by omega
    have n3 := hN.1
    have n4 : N ≤ 4096 := by omega
    have u1 : IntKind.u64.wrap N = N := by rw [IntKind.wrap_u64]; omega
    have u2 : IntKind.i64.wrap ((k : Int) + 1) = (k : Int) + 1 := by rw [IntKind.wrap_i64]; omega
    have HS : Hid (∀ w', Below wr.heap.size wr w' → w'.cell? ⟨w.heap.size + 1, 0, none⟩ = some (.int .i64 N) ∧ w'.cell? ⟨w.heap.size + 1, 1, none⟩ = some (.slice A es.length c) ∧ w'.cell? ⟨b', o' + k, none⟩ = some (.int .i64 z1) ∧ w'.cell? ⟨b', o' + (k + 1), none⟩ = some (.int .i64 z2)) :=
      fun w' h' => ⟨(h'.cell (p := ⟨_, 0, none⟩) r4).trans r0, (h'.cell (p := ⟨_, 1, none⟩) r4).trans r1, (h'.cell (p := ⟨b', _, none⟩) hbl).trans e1, (h'.cell (p := ⟨b', _, none⟩) hbl).trans e2⟩
    go_wp2_with fail
    go_region_held3 (fun w' => w'.cell? ⟨w.heap.size + 1, 0, none⟩ = some (.int .i64 N) ∧ w'.cell? ⟨w.heap.size + 1, 1, none⟩ = some (.slice A es.length c) ∧ w'.cell? ⟨b', o' + k, none⟩ = some (.int .i64 z1) ∧ w'.cell? ⟨b', o' + (k + 1), none⟩ = some (.int .i64 z2))
      (first | exact HS.out _ hb1 | exact HS.out _ (Below.alloc hb1 hb1.size _) | exact HS.out _ ((((Below.alloc hb1 hb1.size _).setCell hb1.size _).setCell hb1.size _)) | (refine HS.out _ ?_; (repeat (first | with_reducible exact Below.refl _ _ | with_reducible assumption | with_reducible refine below_drewN0 ?_ _ | with_reducible refine Below.drew ?_ | with_reducible refine Below.alloc ?_ ?_ _ | with_reducible refine Below.setCell ?_ ?_ _ | go_size | exact Below.size (by assumption))); done))
      (first | (go_at_call 59; refine (addAny N _ _ es A c _ (hrE.out _ ?_) hc' (by omega)).mono ?_; (repeat (first | with_reducible exact Below.refl _ _ | with_reducible assumption | with_reducible refine below_drewN0 ?_ _ | with_reducible refine Below.drew ?_ | with_reducible refine Below.alloc ?_ ?_ _ | with_reducible refine Below.setCell ?_ ?_ _ | go_size | exact Below.size (by assumption))); rintro e w1 ⟨n', A', l', c'', err, rfl, hb1', hE1⟩; have hb1 : Below wr.heap.size wr w1 := Below.trans (by (repeat (first | with_reducible exact Below.refl _ _ | with_reducible assumption | with_reducible refine below_drewN0 ?_ _ | with_reducible refine Below.drew ?_ | with_reducible refine Below.alloc ?_ ?_ _ | with_reducible refine Below.setCell ?_ ?_ _ | go_size | exact Below.size (by assumption)))) (hb1'.mono (by go_size)); obtain ⟨q0, q1, q2, q3, q4⟩ := blk2 ((hb1.block (w.heap.size + 1) r4).trans hgR.out); first | (have hz := blk2 ((hb1'.block wr.heap.size (by simp)).trans (heap_alloc_new _ _)); obtain ⟨y0, y1, y2, y3, y4⟩ := hz) | skip))
    all_goals have hX1 := hb1.size
    all_goals have hA1 : w1.heap[w.heap.size]? = some (.cells #[Value.int IntKind.i64 0, Value.slice none 0 0] 25 (0, 0)) := (hb1.block w.heap.size (by omega)).trans hgA.out
    all_goals have hR1 : w1.heap[w.heap.size + 1]? = some (.cells #[Value.int IntKind.i64 N, Value.slice A es.length c] 25 (0, 0)) := (hb1.block (w.heap.size + 1) r4).trans hgR.out
    all_goals have how1 := own_below0 (own_far how (fun g hg => hb1.block g (own_lt0 how g hg).2)) (Below.refl _ w1)
    all_goals have HA1 := Lib.hid hA1
    all_goals have HR1 := Lib.hid hR1
    all_goals clear hA1 hR1
    · by_cases he0 : err = 0
      · obtain ⟨hne, hgo⟩ := hE1.out
        obtain ⟨e1, e2, hl, ho⟩ := hgo he0
        subst e1 e2 he0
        have hz := addErr_zero hne.symm
        go_wp2_with fail
        go_roundw
        case rel =>
          refine ⟨k + 2, _, A', c'', by go_num, by omega, ⟨hz.2.1, by rw [putE_length]; omega⟩, by rw [putE_length]; exact hl, ?_, ?_, ?_, ?_⟩
          · unfold Hid; exact heap_old (heap_far (heap_far HA1.out (by dsimp only; omega) _) (by dsimp only; omega) _)
          · unfold Hid; rw [putE_length]; exact heap_old (heap_set2 HR1.out _ _)
          · rw [putE_length]
            exact own_cast (own_below0 (own_set (a := ⟨w.heap.size + 1, 1, none⟩) (own_set (a := ⟨w.heap.size + 1, 0, none⟩) ho (by simp; omega) _) (by simp; omega) _) (Below.alloc (Below.refl _ _) (Nat.le_refl _) _)) (by simp; omega) rfl rfl
          · exact hb.trans (Below.trans (hb1.mono hwr) (by (repeat (first | with_reducible exact Below.refl _ _ | with_reducible assumption | with_reducible refine below_drewN0 ?_ _ | with_reducible refine Below.drew ?_ | with_reducible refine Below.alloc ?_ ?_ _ | with_reducible refine Below.setCell ?_ ?_ _ | go_size | exact Below.size (by assumption)))))
        case measure => simp [intOf]; omega
      · have he0' : (err == 0) = false := by simpa using he0
        go_wp2_with fail
        go_roundw
        case rel =>
          refine ⟨k + 2, es, A, c, by go_num, by omega, hes, hc', ?_, ?_, ?_, ?_⟩
          · exact heap_old HA1.out
          · exact heap_old HR1.out
          · exact own_below0 how1 (by (repeat (first | with_reducible exact Below.refl _ _ | with_reducible assumption | with_reducible refine below_drewN0 ?_ _ | with_reducible refine Below.drew ?_ | with_reducible refine Below.alloc ?_ ?_ _ | with_reducible refine Below.setCell ?_ ?_ _ | go_size | exact Below.size (by assumption))))
          · exact hb.trans (Below.trans (hb1.mono hwr) (by (repeat (first | with_reducible exact Below.refl _ _ | with_reducible assumption | with_reducible refine below_drewN0 ?_ _ | with_reducible refine Below.drew ?_ | with_reducible refine Below.alloc ?_ ?_ _ | with_reducible refine Below.setCell ?_ ?_ _ | go_size | exact Below.size (by assumption)))))
        case measure => simp [intOf]; omega
    · by_cases he0 : err = 0
      · obtain ⟨hne, hgo⟩ := hE1.out
        obtain ⟨e1, e2, hl, ho⟩ := hgo he0
        subst e1 e2 he0
        have hz := addErr_zero hne.symm
        go_wp2_with fail
        go_roundw
        case rel =>
          refine ⟨k + 2, _, A', c'', by go_num, by omega, ⟨hz.2.1, by rw [putE_length]; omega⟩, by rw [putE_length]; exact hl, ?_, ?_, ?_, ?_⟩
          · unfold Hid; exact heap_far (heap_far (heap_far (heap_far HA1.out (by dsimp only; omega) _) (by dsimp only; omega) _) (by dsimp only; omega) _) (by dsimp only; omega) _
          · unfold Hid; rw [putE_length]; exact heap_set2 (heap_far (heap_far HR1.out (by dsimp only; omega) _) (by dsimp only; omega) _) _ _
          · rw [putE_length]
            refine own_cast (own_set (own_set (own_set (own_set ho (by simp) _) (by simp) _) (by simp; omega) _) (by simp; omega) _) (by simp; omega) rfl rfl
          · exact hb.trans (Below.trans (hb1.mono hwr) (by (repeat (first | with_reducible exact Below.refl _ _ | with_reducible assumption | with_reducible refine below_drewN0 ?_ _ | with_reducible refine Below.drew ?_ | with_reducible refine Below.alloc ?_ ?_ _ | with_reducible refine Below.setCell ?_ ?_ _ | go_size | exact Below.size (by assumption)))))
        case measure => simp [intOf]; omega
      · have he0' : (err == 0) = false := by simpa using he0
        go_wp2_with fail
        go_roundw
        case rel =>
          refine ⟨k + 2, es, A, c, by go_num, by omega, hes, hc', ?_, ?_, ?_, ?_⟩
          · exact heap_far (heap_far HA1.out (by dsimp only; omega) _) (by dsimp only; omega) _
          · exact heap_far (heap_far HR1.out (by dsimp only; omega) _) (by dsimp only; omega) _
          · refine own_far (own_far how1 (fun g hg => Below.heap_setCell _ _ _ _ ?_)) (fun g hg => Below.heap_setCell _ _ _ _ ?_)
            · have := (own_lt0 how g hg).2; dsimp only; omega
            · have := (own_lt0 how g hg).2; dsimp only; omega
          · exact hb.trans (Below.trans (hb1.mono hwr) (by (repeat (first | with_reducible exact Below.refl _ _ | with_reducible assumption | with_reducible refine below_drewN0 ?_ _ | with_reducible refine Below.drew ?_ | with_reducible refine Below.alloc ?_ ?_ _ | with_reducible refine Below.setCell ?_ ?_ _ | go_size | exact Below.size (by assumption)))))
        case measure => simp [intOf]; omega

theorem small_any (n0 V E : Int) (ends : List Int) (Ae : Option Addr) (ce : Nat) (w : World) (hV : 0 ≤ V) (hV2 : V ≤ 4096) (hE : 0 ≤ E) (hE2 : E ≤ 60000) (hn1 : -9223372036854775808 ≤ n0) (hn2 : n0 ≤ 9223372036854775807)
    (hr : Reads w Ae (icells ends)) (hc : ends.length ≤ ce) (hm : ends.length ≤ 4611686018427387903) :
    Calls Try.prog 31 #[.int .i64 n0, .slice Ae ends.length ce, .int .i64 V, .int .i64 E] w (GraphPost V E w) :=
  (small_own n0 V E ends Ae ce w hV hV2 hE hE2 hn1 hn2 hr hc hm).mono fun e w' ⟨n, es, A, c, h1, h2, h3, h4, h5, h6, h7⟩ => ⟨n, es, A, c, h1, h2, h3, h4, h5, (own_reads1 h6).1, h7⟩
end Go.Proofs.Ytgddfmfiiodgbaa
