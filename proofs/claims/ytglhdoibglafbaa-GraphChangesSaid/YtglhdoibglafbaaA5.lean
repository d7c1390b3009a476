/- The walk of Add, the document's answer. -/
import Derived.Test.YtglhdoibglafbaaA4

namespace Go.Proofs.Ytglhdoibglafbaa
open Go Go.RowKit
set_option maxRecDepth 100000
set_option linter.unusedVariables false

/-- What Add leaves: a graph with an edge more, or why not. -/
def AddPost (n : Int) (es : List (Int × Int)) (a b : Int) (w : World) (e : Ending) (w' : World) : Prop :=
  (addErr n es a b ≠ 0 ∧ e = .returned (.tuple #[.agg #[.int .i64 0, .slice none 0 0], .int .i64 (addErr n es a b)]) ∧ Below w.heap.size w w') ∨
  (addErr n es a b = 0 ∧ ∃ v, e = .returned (.tuple #[.agg #[.int .i64 n, v], .int .i64 0]) ∧ w'.ownsRow w.heap.size 28 2 v (es.length + 1) (pcells (putE es (min a b, max a b))) ∧ Below w.heap.size w w')

theorem AddPost.err {n : Int} {es : List (Int × Int)} {a b : Int} {w w' : World} {e : Ending} (k : Int) (h : addErr n es a b = k) (hk : k ≠ 0) (he : e = .returned (.tuple #[.agg #[.int .i64 0, .slice none 0 0], .int .i64 k])) (hb : Below w.heap.size w w') : AddPost n es a b w e w' :=
  .inl ⟨by rw [h]; exact hk, by rw [h]; exact he, hb⟩

theorem put_slice (es : List (Int × Int)) (x y : Int) (A : Option Addr) (c : Nat) (w : World) (hr : Reads w A (pcells es)) (hc : es.length ≤ c) (hm : es.length ≤ 100000) :
    Calls Try.prog 89 #[.slice A es.length c, .agg #[.int .i64 x, .int .i64 y]] w fun e w' => ∃ A' c', e = .returned (.slice A' (es.length + 1) c') ∧ w'.ownsRow w.heap.size 28 2 (.slice A' (es.length + 1) c') (es.length + 1) (pcells (putE es (x, y))) ∧ Below w.heap.size w w' :=
  (put_any es x y A c w hr hc hm).mono fun e w' ⟨v, he, ho, hb⟩ => by
    obtain ⟨A', c', rfl, _⟩ := own_reads0 ho
    exact ⟨A', c', he, ho, hb⟩


set_option maxHeartbeats 2000000 in
theorem refAdd (n a b : Int) (es : List (Int × Int)) (A : Option Addr) (c : Nat) (w : World) (hr : Reads w A (pcells es)) (hc : es.length ≤ c) (hm : es.length ≤ 4611686018427387903) :
    Calls Try.prog 58 #[.agg #[.int .i64 n, .slice A es.length c], .int .i64 a, .int .i64 b] w (AddPost n es a b w) := by
  have HRt := fun W hR => refRight n es A c W hR hc hm
  have HIa : ∀ W, Calls Try.prog 88 #[.agg #[.int .i64 n, .slice A es.length c], .int .i64 a] W fun e w' => e = .returned (.bool (isB n a)) ∧ Below W.heap.size W w' := fun W => refIs_any n a A es.length c W
  have HIb : ∀ W, Calls Try.prog 88 #[.agg #[.int .i64 n, .slice A es.length c], .int .i64 b] W fun e w' => e = .returned (.bool (isB n b)) ∧ Below W.heap.size W w' := fun W => refIs_any n b A es.length c W
  have HH := fun W hR => refHas n a b es A c W hR hc hm
  have HE : addErr n es a b = if rightB n es = false then 3 else if isB n a = false then 4 else if isB n b = false then 4 else if a = b then 5 else if hasB n es a b = true then 6 else if 65536 ≤ es.length then 8 else 0 := rfl
  have HL : rightB n es = true → es.length ≤ 65536 := fun h => by unfold rightB at h; simp at h; omega
  generalize rightB n es = b1 at HRt HE HL
  generalize isB n a = b2 at HIa HE
  generalize isB n b = b3 at HIb HE
  generalize hasB n es a b = b4 at HH HE
  have HE1 := Lib.hid HE
  clear HE
  go_enter Try.func58, Try.ntmps58
  go_wp2_with fail
  generalize hW : (w.alloc (Obj.cells #[Value.int IntKind.i64 n, Value.slice A es.length c] 25)).alloc (Obj.cells #[Value.int IntKind.i64 0, Value.slice none 0 0] 25) = W
  have hbW : Below w.heap.size w W := by rw [← hW]; (repeat (first | with_reducible exact Below.refl _ _ | with_reducible assumption | with_reducible refine below_drewN0 ?_ _ | with_reducible refine Below.drew ?_ | with_reducible refine Below.alloc ?_ ?_ _ | with_reducible refine Below.setCell ?_ ?_ _ | go_size))
  have hr1 := hr.below hbW
  have hA0 : W.heap[w.heap.size]? = some (.cells #[Value.int IntKind.i64 n, Value.slice A es.length c] 25 (0, 0)) := by rw [← hW]; exact heap_old (heap_alloc_new w _)
  have hR0 : W.heap[w.heap.size + 1]? = some (.cells #[Value.int IntKind.i64 0, Value.slice none 0 0] 25 (0, 0)) := by
    rw [← hW]
    have := heap_alloc_new (w.alloc (Obj.cells #[Value.int IntKind.i64 n, Value.slice A es.length c] 25)) (Obj.cells #[Value.int IntKind.i64 0, Value.slice none 0 0] 25)
    rwa [World.size_alloc] at this
  have hsz : W.heap.size = w.heap.size + 2 := by rw [← hW]; simp
  have HA := Lib.hid (fun w' (h : Below W.heap.size W w') => blk2 ((h.block w.heap.size (by omega)).trans hA0))
  have HR := Lib.hid (fun w' (h : Below W.heap.size W w') => blk2 ((h.block (w.heap.size + 1) (by omega)).trans hR0))
  clear hW hA0 hR0 hr
  cases b1 with
  | false =>
    go_wp2_with (first | (go_at_call 32; refine (HRt _ ?_).mono ?_; exact hr1; rintro e w1 ⟨rfl, hb1⟩; obtain ⟨a0, a1, a2, a3, a4⟩ := HA.out _ hb1; obtain ⟨r0, r1, r2, r3, r4⟩ := HR.out _ hb1))
    refine bodyPost_ret (v := .tuple #[.agg #[.int .i64 0, .slice none 0 0], .int .i64 3]) (by simp [results, Try.results58, go_sem, r0, r1]) rfl ?_
    exact .err 3 (by simpa using HE1.out) (by omega) rfl (hbW.trans (Below.trans (hb1.mono (by omega)) (by (repeat (first | with_reducible exact Below.refl _ _ | with_reducible assumption | with_reducible refine below_drewN0 ?_ _ | with_reducible refine Below.drew ?_ | with_reducible refine Below.alloc ?_ ?_ _ | with_reducible refine Below.setCell ?_ ?_ _ | go_size)))))
  | true =>
  cases b2 with
  | false =>
    go_wp2_with (first | (go_at_call 32; refine (HRt _ ?_).mono ?_; exact hr1; rintro e w1 ⟨rfl, hb1⟩; obtain ⟨a0, a1, a2, a3, a4⟩ := HA.out _ hb1; obtain ⟨r0, r1, r2, r3, r4⟩ := HR.out _ hb1) | (go_at_call 88; (with_reducible refine (HIa _).mono ?_); rintro e w2 ⟨rfl, hb2⟩; have hB2 := hb1.trans (hb2.mono hb1.size); obtain ⟨b0, b1, b2, b3, b4⟩ := HA.out _ hB2; obtain ⟨s0, s1, s2, s3, s4⟩ := HR.out _ hB2))
    refine bodyPost_ret (v := .tuple #[.agg #[.int .i64 0, .slice none 0 0], .int .i64 4]) (by simp [results, Try.results58, go_sem, s0, s1]) rfl ?_
    exact .err 4 (by simpa using HE1.out) (by omega) rfl (hbW.trans (Below.trans (hB2.mono (by omega)) (by (repeat (first | with_reducible exact Below.refl _ _ | with_reducible assumption | with_reducible refine below_drewN0 ?_ _ | with_reducible refine Below.drew ?_ | with_reducible refine Below.alloc ?_ ?_ _ | with_reducible refine Below.setCell ?_ ?_ _ | go_size)))))
  | true =>
  cases b3 with
  | false =>
    go_wp2_with (first | (go_at_call 32; refine (HRt _ ?_).mono ?_; exact hr1; rintro e w1 ⟨rfl, hb1⟩; obtain ⟨a0, a1, a2, a3, a4⟩ := HA.out _ hb1; obtain ⟨r0, r1, r2, r3, r4⟩ := HR.out _ hb1) | (go_at_call 88; (with_reducible refine (HIb _).mono ?_); rintro e w3 ⟨rfl, hb3⟩; have hB3 := hB2.trans (hb3.mono hB2.size); obtain ⟨c0, c1, c2, c3, c4⟩ := HA.out _ hB3; obtain ⟨t0, t1, t2, t3, t4⟩ := HR.out _ hB3) | (go_at_call 88; (with_reducible refine (HIa _).mono ?_); rintro e w2 ⟨rfl, hb2⟩; have hB2 := hb1.trans (hb2.mono hb1.size); obtain ⟨b0, b1, b2, b3, b4⟩ := HA.out _ hB2; obtain ⟨s0, s1, s2, s3, s4⟩ := HR.out _ hB2))
    refine bodyPost_ret (v := .tuple #[.agg #[.int .i64 0, .slice none 0 0], .int .i64 4]) (by simp [results, Try.results58, go_sem, t0, t1]) rfl ?_
    exact .err 4 (by simpa using HE1.out) (by omega) rfl (hbW.trans (Below.trans (hB3.mono (by omega)) (by (repeat (first | with_reducible exact Below.refl _ _ | with_reducible assumption | with_reducible refine below_drewN0 ?_ _ | with_reducible refine Below.drew ?_ | with_reducible refine Below.alloc ?_ ?_ _ | with_reducible refine Below.setCell ?_ ?_ _ | go_size)))))
  | true =>
  by_cases hab : a = b
  · have hab' : (a == b) = true := by simpa using hab
    have HE2 : Hid (addErr n es a b = 5) := by have := HE1.out; unfold Hid; simpa [hab] using this
    clear hab
    go_wp2_with (first | (go_at_call 32; refine (HRt _ ?_).mono ?_; exact hr1; rintro e w1 ⟨rfl, hb1⟩; obtain ⟨a0, a1, a2, a3, a4⟩ := HA.out _ hb1; obtain ⟨r0, r1, r2, r3, r4⟩ := HR.out _ hb1) | (go_at_call 88; (with_reducible refine (HIb _).mono ?_); rintro e w3 ⟨rfl, hb3⟩; have hB3 := hB2.trans (hb3.mono hB2.size); obtain ⟨c0, c1, c2, c3, c4⟩ := HA.out _ hB3; obtain ⟨t0, t1, t2, t3, t4⟩ := HR.out _ hB3) | (go_at_call 88; (with_reducible refine (HIa _).mono ?_); rintro e w2 ⟨rfl, hb2⟩; have hB2 := hb1.trans (hb2.mono hb1.size); obtain ⟨b0, b1, b2, b3, b4⟩ := HA.out _ hB2; obtain ⟨s0, s1, s2, s3, s4⟩ := HR.out _ hB2))
    refine bodyPost_ret (v := .tuple #[.agg #[.int .i64 0, .slice none 0 0], .int .i64 5]) (by simp [results, Try.results58, go_sem, t0, t1]) rfl ?_
    exact .err 5 HE2.out (by omega) rfl (hbW.trans (Below.trans (hB3.mono (by omega)) (by (repeat (first | with_reducible exact Below.refl _ _ | with_reducible assumption | with_reducible refine below_drewN0 ?_ _ | with_reducible refine Below.drew ?_ | with_reducible refine Below.alloc ?_ ?_ _ | with_reducible refine Below.setCell ?_ ?_ _ | go_size)))))
  have hab' : (a == b) = false := by simpa using hab
  cases b4 with
  | true =>
    have HE2 : Hid (addErr n es a b = 6) := by have := HE1.out; unfold Hid; simpa [hab] using this
    go_wp2_with (first | (go_at_call 32; refine (HRt _ ?_).mono ?_; exact hr1; rintro e w1 ⟨rfl, hb1⟩; obtain ⟨a0, a1, a2, a3, a4⟩ := HA.out _ hb1; obtain ⟨r0, r1, r2, r3, r4⟩ := HR.out _ hb1) | (go_at_call 88; (with_reducible refine (HIb _).mono ?_); rintro e w3 ⟨rfl, hb3⟩; have hB3 := hB2.trans (hb3.mono hB2.size); obtain ⟨c0, c1, c2, c3, c4⟩ := HA.out _ hB3; obtain ⟨t0, t1, t2, t3, t4⟩ := HR.out _ hB3) | (go_at_call 88; (with_reducible refine (HIa _).mono ?_); rintro e w2 ⟨rfl, hb2⟩; have hB2 := hb1.trans (hb2.mono hb1.size); obtain ⟨b0, b1, b2, b3, b4⟩ := HA.out _ hB2; obtain ⟨s0, s1, s2, s3, s4⟩ := HR.out _ hB2) | (go_at_call 34; refine (HH _ ?_).mono ?_; exact hr1.below hB3; rintro e w4 ⟨rfl, hb4⟩; have hB4 := hB3.trans (hb4.mono hB3.size); obtain ⟨d0, d1, d2, d3, d4⟩ := HA.out _ hB4; obtain ⟨u0, u1, u2, u3, u4⟩ := HR.out _ hB4))
    refine bodyPost_ret (v := .tuple #[.agg #[.int .i64 0, .slice none 0 0], .int .i64 6]) (by simp [results, Try.results58, go_sem, u0, u1]) rfl ?_
    exact .err 6 HE2.out (by omega) rfl (hbW.trans (Below.trans (hB4.mono (by omega)) (by (repeat (first | with_reducible exact Below.refl _ _ | with_reducible assumption | with_reducible refine below_drewN0 ?_ _ | with_reducible refine Below.drew ?_ | with_reducible refine Below.alloc ?_ ?_ _ | with_reducible refine Below.setCell ?_ ?_ _ | go_size)))))
  | false =>
  have hl := HL rfl
  by_cases h6 : es.length = 65536
  · have HE2 : Hid (addErr n es a b = 8) := by have := HE1.out; unfold Hid; simpa [hab, h6] using this
    have h6' : decide ((65536 : Int) ≤ (es.length : Int)) = true := decide_eq_true (by omega)
    have h6'' := Lib.hid h6
    clear h6
    go_wp2_with (first | (go_at_call 32; refine (HRt _ ?_).mono ?_; exact hr1; rintro e w1 ⟨rfl, hb1⟩; obtain ⟨a0, a1, a2, a3, a4⟩ := HA.out _ hb1; obtain ⟨r0, r1, r2, r3, r4⟩ := HR.out _ hb1) | (go_at_call 88; (with_reducible refine (HIb _).mono ?_); rintro e w3 ⟨rfl, hb3⟩; have hB3 := hB2.trans (hb3.mono hB2.size); obtain ⟨c0, c1, c2, c3, c4⟩ := HA.out _ hB3; obtain ⟨t0, t1, t2, t3, t4⟩ := HR.out _ hB3) | (go_at_call 88; (with_reducible refine (HIa _).mono ?_); rintro e w2 ⟨rfl, hb2⟩; have hB2 := hb1.trans (hb2.mono hb1.size); obtain ⟨b0, b1, b2, b3, b4⟩ := HA.out _ hB2; obtain ⟨s0, s1, s2, s3, s4⟩ := HR.out _ hB2) | (go_at_call 34; refine (HH _ ?_).mono ?_; exact hr1.below hB3; rintro e w4 ⟨rfl, hb4⟩; have hB4 := hB3.trans (hb4.mono hB3.size); obtain ⟨d0, d1, d2, d3, d4⟩ := HA.out _ hB4; obtain ⟨u0, u1, u2, u3, u4⟩ := HR.out _ hB4))
    refine bodyPost_ret (v := .tuple #[.agg #[.int .i64 0, .slice none 0 0], .int .i64 8]) (by simp [results, Try.results58, go_sem, u0, u1]) rfl ?_
    exact .err 8 HE2.out (by omega) rfl (hbW.trans (Below.trans (hB4.mono (by omega)) (by (repeat (first | with_reducible exact Below.refl _ _ | with_reducible assumption | with_reducible refine below_drewN0 ?_ _ | with_reducible refine Below.drew ?_ | with_reducible refine Below.alloc ?_ ?_ _ | with_reducible refine Below.setCell ?_ ?_ _ | go_size)))))
  · have HE2 : Hid (addErr n es a b = 0) := by have := HE1.out; rw [if_neg (by simp), if_neg (by simp), if_neg (by simp), if_neg hab, if_neg (by simp), if_neg (by omega)] at this; exact this
    have h6' : decide ((65536 : Int) ≤ (es.length : Int)) = false := decide_eq_false (by omega)
    go_wp2_with (first | (go_at_call 32; refine (HRt _ ?_).mono ?_; exact hr1; rintro e w1 ⟨rfl, hb1⟩; obtain ⟨a0, a1, a2, a3, a4⟩ := HA.out _ hb1; obtain ⟨r0, r1, r2, r3, r4⟩ := HR.out _ hb1) | (go_at_call 88; (with_reducible refine (HIb _).mono ?_); rintro e w3 ⟨rfl, hb3⟩; have hB3 := hB2.trans (hb3.mono hB2.size); obtain ⟨c0, c1, c2, c3, c4⟩ := HA.out _ hB3; obtain ⟨t0, t1, t2, t3, t4⟩ := HR.out _ hB3) | (go_at_call 88; (with_reducible refine (HIa _).mono ?_); rintro e w2 ⟨rfl, hb2⟩; have hB2 := hb1.trans (hb2.mono hb1.size); obtain ⟨b0, b1, b2, b3, b4⟩ := HA.out _ hB2; obtain ⟨s0, s1, s2, s3, s4⟩ := HR.out _ hB2) | (go_at_call 34; refine (HH _ ?_).mono ?_; exact hr1.below hB3; rintro e w4 ⟨rfl, hb4⟩; have hB4 := hB3.trans (hb4.mono hB3.size); obtain ⟨d0, d1, d2, d3, d4⟩ := HA.out _ hB4; obtain ⟨u0, u1, u2, u3, u4⟩ := HR.out _ hB4))
    have hr4 := hr1.below hB4
    have HT := fun W => turned_any a b W
    obtain ⟨x, hx⟩ : ∃ x, x = min a b := ⟨_, rfl⟩
    obtain ⟨y, hy⟩ : ∃ y, y = max a b := ⟨_, rfl⟩
    rw [← hx, ← hy] at HT
    have HX := Lib.hid hx
    have HY := Lib.hid hy
    clear hx hy
    go_region_held3 (fun w' => w'.cell? ⟨w.heap.size, 0, none⟩ = some (.int .i64 n) ∧ w'.cell? ⟨w.heap.size, 1, none⟩ = some (.slice A es.length c)) (first | exact ⟨f0, f1⟩ | exact ⟨e0, e1⟩ | exact ⟨d0, d1⟩ | (simp [go_sem, *]; done))
      (first
        | (go_at_call 71; refine (HT _).mono ?_; rintro e w5 ⟨rfl, hb5⟩; have hB5 : Below W.heap.size W w5 := Below.trans (by (repeat (first | with_reducible exact Below.refl _ _ | with_reducible assumption | with_reducible refine below_drewN0 ?_ _ | with_reducible refine Below.drew ?_ | with_reducible refine Below.alloc ?_ ?_ _ | with_reducible refine Below.setCell ?_ ?_ _ | go_size))) (hb5.mono (by have := hB4.size; go_size)); obtain ⟨e0, e1, e2, e3, e4⟩ := HA.out _ hB5; obtain ⟨y0, y1, y2, y3, y4⟩ := HR.out _ hB5)
        | (go_at_call 89; refine (put_slice es x y A c _ (hr1.below hB5) hc (by omega)).mono ?_; rintro e w6 ⟨A6, c6, rfl, ho6, hb6⟩; have hB6 : Below W.heap.size W w6 := Below.trans (by (repeat (first | with_reducible exact Below.refl _ _ | with_reducible assumption | with_reducible refine below_drewN0 ?_ _ | with_reducible refine Below.drew ?_ | with_reducible refine Below.alloc ?_ ?_ _ | with_reducible refine Below.setCell ?_ ?_ _ | go_size))) (hb6.mono (by have := hB5.size; go_size)); obtain ⟨f0, f1, f2, f3, f4⟩ := HA.out _ hB6; obtain ⟨z0, z1, z2, z3, z4⟩ := HR.out _ hB6))
    go_wp2_with fail
    refine bodyPost_ret (v := .tuple #[.agg #[.int .i64 n, .slice A6 (es.length + 1) c6], .int .i64 0]) (by simp [results, Try.results58, go_sem, z0, z1]) rfl ?_
    refine .inr ⟨HE2.out, _, rfl, ?_, hbW.trans (Below.trans (hB6.mono (by omega)) (by (repeat (first | with_reducible exact Below.refl _ _ | with_reducible assumption | with_reducible refine below_drewN0 ?_ _ | with_reducible refine Below.drew ?_ | with_reducible refine Below.alloc ?_ ?_ _ | with_reducible refine Below.setCell ?_ ?_ _ | go_size))))⟩
    have h5 := hB5.size
    rw [← HX.out, ← HY.out]
    exact own_cast (own_set (own_set ho6 (by dsimp only; omega) _) (by dsimp only; omega) _) (by omega) rfl rfl
end Go.Proofs.Ytglhdoibglafbaa
