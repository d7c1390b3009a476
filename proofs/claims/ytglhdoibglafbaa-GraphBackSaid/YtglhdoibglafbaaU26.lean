/- Walks of graph.Add and graph.Remove. -/
import Derived.Test.YtglhdoibglafbaaU17
import Derived.Test.YtglhdoibglafbaaU16
import Derived.Test.YtglhdoibglafbaaU25
namespace Go.Proofs.Ytglhdoibglafbaa
open Go Go.RowKit
set_option maxRecDepth 100000
set_option linter.unusedVariables false
set_option linter.unusedSimpArgs false


set_option maxHeartbeats 4000000 in
theorem add_any (n a b : Int) (es : List (Int × Int)) (A : Option Addr) (c : Nat) (w : World) (hr : Reads w A (pcells es)) (hc : es.length ≤ c) (hm : es.length ≤ 4611686018427387903) :
    Calls Try.prog 57 #[.agg #[.int .i64 n, .slice A es.length c], .int .i64 a, .int .i64 b] w (AddPost n es a b w) := by
  cases hR : rightB n es with
  | false => exact (add_bad n a b es A c w hr hc hm hR).mono fun e w' ⟨he, hb⟩ => .err 3 (by unfold addErr; rw [if_pos hR]) (by omega) he hb
  | true =>
  have hP := (right_iff n es).1 hR
  have hlen := hP.len
  cases hT : (decide (0 ≤ min a b) && decide (max a b < n)) with
  | false =>
    refine (add_vertex n a b es A c w hr hc hm hR hT).mono fun e w' ⟨he, hb⟩ => .err 4 ?_ (by omega) he hb
    rw [there_isB] at hT
    unfold addErr
    rw [if_neg (by simp [hR])]
    cases h1 : isB n a with
    | false => rw [if_pos rfl]
    | true =>
      cases h2 : isB n b with
      | false => rw [if_neg (by simp), if_pos rfl]
      | true => simp [h1, h2] at hT
  | true =>
  have hAB := hT
  rw [there_isB] at hAB
  have hA1 : isB n a = true := by cases h : isB n a <;> simp [h] at hAB ⊢
  have hB1 : isB n b = true := by cases h : isB n b <;> simp [h] at hAB ⊢
  have HE0 : addErr n es a b = if a = b then 5 else if hasB n es a b = true then 6 else if 65536 ≤ es.length then 8 else 0 := by
    unfold addErr
    rw [if_neg (by simp [hR]), if_neg (by simp [hA1]), if_neg (by simp [hB1])]
  have HRt := fun W hR => right_any n es A c W hR hc hm
  rw [hR] at HRt
  have HTh := fun W => there_any n a b W
  rw [hT] at HTh
  clear hA1 hB1 hAB
  by_cases hab : a = b
  · have hab' : (a == b) = true := by simpa using hab
    rw [if_pos hab] at HE0
    have HE := Lib.hid HE0
    clear HE0 hab hR hT hP hlen
    (go_enter Try.func57, Try.ntmps57
     go_wp2_with fail
     generalize hW : (w.alloc (Obj.cells #[Value.int IntKind.i64 n, Value.slice A es.length c] 25)).alloc (Obj.cells #[Value.int IntKind.i64 0, Value.slice none 0 0] 25) = W
     have hbW : Below w.heap.size w W := by rw [← hW]; (repeat (first | with_reducible exact Below.refl _ _ | with_reducible assumption | with_reducible refine below_drewN0 ?_ _ | with_reducible refine Below.drew ?_ | with_reducible refine Below.alloc ?_ ?_ _ | with_reducible refine Below.setCell ?_ ?_ _ | go_size | exact Below.size (by assumption)))
     have hr1 := hr.below hbW
     have hA0 : W.heap[w.heap.size]? = some (.cells #[Value.int IntKind.i64 n, Value.slice A es.length c] 25 (0, 0)) := by rw [← hW]; exact heap_old (heap_alloc_new w _)
     have hR0 : W.heap[w.heap.size + 1]? = some (.cells #[Value.int IntKind.i64 0, Value.slice none 0 0] 25 (0, 0)) := by
       rw [← hW]
       have := heap_alloc_new (w.alloc (Obj.cells #[Value.int IntKind.i64 n, Value.slice A es.length c] 25)) (Obj.cells #[Value.int IntKind.i64 0, Value.slice none 0 0] 25)
       rwa [World.size_alloc] at this
     have hsz : W.heap.size = w.heap.size + 2 := by rw [← hW]; simp
     have HA := Lib.hid (fun w' (h : Below W.heap.size W w') => blk2 ((h.block w.heap.size (by omega)).trans hA0))
     have HR := Lib.hid (fun w' (h : Below W.heap.size W w') => blk2 ((h.block (w.heap.size + 1) (by omega)).trans hR0))
     clear hW hA0 hR0 hr)
    go_wp2_with (first | (go_at_call 31; go_loud (refine (HRt _ ?_).mono ?_; exact hr1; rintro e w1 ⟨rfl, hb1⟩; obtain ⟨a0, a1, a2, a3, a4⟩ := HA.out _ hb1; obtain ⟨r0, r1, r2, r3, r4⟩ := HR.out _ hb1)) | (go_at_call 66; go_loud (refine (HTh _).mono ?_; rintro e w2 ⟨rfl, rfl⟩)))
    refine bodyPost_ret (v := .tuple #[.agg #[.int .i64 0, .slice none 0 0], .int .i64 5]) (by simp [results, Try.results57, go_sem, r0, r1]) rfl ?_
    exact .err 5 HE.out (by omega) rfl (hbW.trans (Below.trans (hb1.mono (by omega)) (by (repeat (first | with_reducible exact Below.refl _ _ | with_reducible assumption | with_reducible refine below_drewN0 ?_ _ | with_reducible refine Below.drew ?_ | with_reducible refine Below.alloc ?_ ?_ _ | with_reducible refine Below.setCell ?_ ?_ _ | go_size | exact Below.size (by assumption))))))
  have hab' : (a == b) = false := by simpa using hab
  rw [if_neg hab] at HE0
  obtain ⟨p, hp, k1, k2⟩ := lb_ex (min a b, max a b) es hP.inc
  obtain ⟨fnd, k3, k4⟩ : ∃ fnd : Bool, (es[p]? = none → fnd = false) ∧ (∀ d, es[p]? = some d → fnd = decide (cmpE d.1 d.2 (min a b) (max a b) = 0)) := by
    cases hpp : es[p]? with
    | none => exact ⟨false, fun _ => rfl, fun d h => by cases h⟩
    | some d => exact ⟨decide (cmpE d.1 d.2 (min a b) (max a b) = 0), fun h => (by cases h), fun d' h => (by cases h; rfl)⟩
  have HPl := fun W hR => place_any n a b es A c W hR hc hm _ _ rfl rfl p hp (fun j e hj he => (cmpE_lt _ _ _ _).2 (k1 j e hj he)) (fun j e hj he => Int.not_lt.1 fun h => k2 j e hj he ((cmpE_lt _ _ _ _).1 h)) fnd k3 k4
  have HF := lb_find (e := (min a b, max a b)) k1 k2 hP.inc fnd k3 k4
  cases fnd with
  | true =>
    rw [if_pos rfl] at HF
    have hh : hasB n es a b = true := by
      unfold hasB indexB
      rw [if_pos hR, HF]
      simp
    rw [if_pos hh] at HE0
    have HE := Lib.hid HE0
    clear HE0 hab hR hT hP hlen HF hh k1 k2 k3 k4 hp
    (go_enter Try.func57, Try.ntmps57
     go_wp2_with fail
     generalize hW : (w.alloc (Obj.cells #[Value.int IntKind.i64 n, Value.slice A es.length c] 25)).alloc (Obj.cells #[Value.int IntKind.i64 0, Value.slice none 0 0] 25) = W
     have hbW : Below w.heap.size w W := by rw [← hW]; (repeat (first | with_reducible exact Below.refl _ _ | with_reducible assumption | with_reducible refine below_drewN0 ?_ _ | with_reducible refine Below.drew ?_ | with_reducible refine Below.alloc ?_ ?_ _ | with_reducible refine Below.setCell ?_ ?_ _ | go_size | exact Below.size (by assumption)))
     have hr1 := hr.below hbW
     have hA0 : W.heap[w.heap.size]? = some (.cells #[Value.int IntKind.i64 n, Value.slice A es.length c] 25 (0, 0)) := by rw [← hW]; exact heap_old (heap_alloc_new w _)
     have hR0 : W.heap[w.heap.size + 1]? = some (.cells #[Value.int IntKind.i64 0, Value.slice none 0 0] 25 (0, 0)) := by
       rw [← hW]
       have := heap_alloc_new (w.alloc (Obj.cells #[Value.int IntKind.i64 n, Value.slice A es.length c] 25)) (Obj.cells #[Value.int IntKind.i64 0, Value.slice none 0 0] 25)
       rwa [World.size_alloc] at this
     have hsz : W.heap.size = w.heap.size + 2 := by rw [← hW]; simp
     have HA := Lib.hid (fun w' (h : Below W.heap.size W w') => blk2 ((h.block w.heap.size (by omega)).trans hA0))
     have HR := Lib.hid (fun w' (h : Below W.heap.size W w') => blk2 ((h.block (w.heap.size + 1) (by omega)).trans hR0))
     clear hW hA0 hR0 hr)
    go_wp2_with (first | (go_at_call 31; go_loud (refine (HRt _ ?_).mono ?_; exact hr1; rintro e w1 ⟨rfl, hb1⟩; obtain ⟨a0, a1, a2, a3, a4⟩ := HA.out _ hb1; obtain ⟨r0, r1, r2, r3, r4⟩ := HR.out _ hb1)) | (go_at_call 66; go_loud (refine (HTh _).mono ?_; rintro e w2 ⟨rfl, rfl⟩)) | (go_at_call 70; go_loud (refine (HPl _ (hr1.below hb1)).mono ?_; rintro e w3 ⟨rfl, hb3'⟩; have hb3 := hb1.trans (hb3'.mono hb1.size); obtain ⟨c0, c1, c2, c3, c4⟩ := HA.out _ hb3; obtain ⟨t0, t1, t2, t3, t4⟩ := HR.out _ hb3)))
    refine bodyPost_ret (v := .tuple #[.agg #[.int .i64 0, .slice none 0 0], .int .i64 6]) (by simp [results, Try.results57, go_sem, t0, t1]) rfl ?_
    exact .err 6 HE.out (by omega) rfl (hbW.trans (Below.trans (hb3.mono (by omega)) (by (repeat (first | with_reducible exact Below.refl _ _ | with_reducible assumption | with_reducible refine below_drewN0 ?_ _ | with_reducible refine Below.drew ?_ | with_reducible refine Below.alloc ?_ ?_ _ | with_reducible refine Below.setCell ?_ ?_ _ | go_size | exact Below.size (by assumption))))))
  | false =>
  rw [if_neg (by simp)] at HF
  have hh : hasB n es a b = false := by
    unfold hasB indexB
    rw [if_pos hR, HF]
    simp
  rw [if_neg (by simp [hh])] at HE0
  by_cases h6 : es.length = 65536
  · rw [if_pos (by omega)] at HE0
    have HE := Lib.hid HE0
    have h6' : decide ((65536 : Int) ≤ (es.length : Int)) = true := decide_eq_true (by omega)
    clear HE0 hab hR hT hP HF hh k1 k2 k3 k4 hp h6 hlen
    (go_enter Try.func57, Try.ntmps57
     go_wp2_with fail
     generalize hW : (w.alloc (Obj.cells #[Value.int IntKind.i64 n, Value.slice A es.length c] 25)).alloc (Obj.cells #[Value.int IntKind.i64 0, Value.slice none 0 0] 25) = W
     have hbW : Below w.heap.size w W := by rw [← hW]; (repeat (first | with_reducible exact Below.refl _ _ | with_reducible assumption | with_reducible refine below_drewN0 ?_ _ | with_reducible refine Below.drew ?_ | with_reducible refine Below.alloc ?_ ?_ _ | with_reducible refine Below.setCell ?_ ?_ _ | go_size | exact Below.size (by assumption)))
     have hr1 := hr.below hbW
     have hA0 : W.heap[w.heap.size]? = some (.cells #[Value.int IntKind.i64 n, Value.slice A es.length c] 25 (0, 0)) := by rw [← hW]; exact heap_old (heap_alloc_new w _)
     have hR0 : W.heap[w.heap.size + 1]? = some (.cells #[Value.int IntKind.i64 0, Value.slice none 0 0] 25 (0, 0)) := by
       rw [← hW]
       have := heap_alloc_new (w.alloc (Obj.cells #[Value.int IntKind.i64 n, Value.slice A es.length c] 25)) (Obj.cells #[Value.int IntKind.i64 0, Value.slice none 0 0] 25)
       rwa [World.size_alloc] at this
     have hsz : W.heap.size = w.heap.size + 2 := by rw [← hW]; simp
     have HA := Lib.hid (fun w' (h : Below W.heap.size W w') => blk2 ((h.block w.heap.size (by omega)).trans hA0))
     have HR := Lib.hid (fun w' (h : Below W.heap.size W w') => blk2 ((h.block (w.heap.size + 1) (by omega)).trans hR0))
     clear hW hA0 hR0 hr)
    go_wp2_with (first | (go_at_call 31; go_loud (refine (HRt _ ?_).mono ?_; exact hr1; rintro e w1 ⟨rfl, hb1⟩; obtain ⟨a0, a1, a2, a3, a4⟩ := HA.out _ hb1; obtain ⟨r0, r1, r2, r3, r4⟩ := HR.out _ hb1)) | (go_at_call 66; go_loud (refine (HTh _).mono ?_; rintro e w2 ⟨rfl, rfl⟩)) | (go_at_call 70; go_loud (refine (HPl _ (hr1.below hb1)).mono ?_; rintro e w3 ⟨rfl, hb3'⟩; have hb3 := hb1.trans (hb3'.mono hb1.size); obtain ⟨c0, c1, c2, c3, c4⟩ := HA.out _ hb3; obtain ⟨t0, t1, t2, t3, t4⟩ := HR.out _ hb3)))
    refine bodyPost_ret (v := .tuple #[.agg #[.int .i64 0, .slice none 0 0], .int .i64 8]) (by simp [results, Try.results57, go_sem, t0, t1]) rfl ?_
    exact .err 8 HE.out (by omega) rfl (hbW.trans (Below.trans (hb3.mono (by omega)) (by (repeat (first | with_reducible exact Below.refl _ _ | with_reducible assumption | with_reducible refine below_drewN0 ?_ _ | with_reducible refine Below.drew ?_ | with_reducible refine Below.alloc ?_ ?_ _ | with_reducible refine Below.setCell ?_ ?_ _ | go_size | exact Below.size (by assumption))))))
  · rw [if_neg (by omega)] at HE0
    have HE := Lib.hid HE0
    have h6' : decide ((65536 : Int) ≤ (es.length : Int)) = false := decide_eq_false (by omega)
    have hnm : (min a b, max a b) ∉ es := fun hm => by
      have := (hasB_iff hR a b).2 hm
      rw [hh] at this
      cases this
    have HPE := Lib.hid (putE_at hP hnm hp k1 k2)
    have hHE := fun W => edge_any a b W
    obtain ⟨x, hx⟩ : ∃ x, x = min a b := ⟨_, rfl⟩
    obtain ⟨y, hy⟩ : ∃ y, y = max a b := ⟨_, rfl⟩
    rw [← hx, ← hy] at hHE HPE
    have HX := Lib.hid hx
    have HY := Lib.hid hy
    have HPl' := HPl
    clear HE0 hab hR hT hP HF hh k1 k2 k3 k4 h6 hnm hx hy HPl
    have HPl := HPl'
    clear HPl'
    (go_enter Try.func57, Try.ntmps57
     go_wp2_with fail
     generalize hW : (w.alloc (Obj.cells #[Value.int IntKind.i64 n, Value.slice A es.length c] 25)).alloc (Obj.cells #[Value.int IntKind.i64 0, Value.slice none 0 0] 25) = W
     have hbW : Below w.heap.size w W := by rw [← hW]; (repeat (first | with_reducible exact Below.refl _ _ | with_reducible assumption | with_reducible refine below_drewN0 ?_ _ | with_reducible refine Below.drew ?_ | with_reducible refine Below.alloc ?_ ?_ _ | with_reducible refine Below.setCell ?_ ?_ _ | go_size | exact Below.size (by assumption)))
     have hr1 := hr.below hbW
     have hA0 : W.heap[w.heap.size]? = some (.cells #[Value.int IntKind.i64 n, Value.slice A es.length c] 25 (0, 0)) := by rw [← hW]; exact heap_old (heap_alloc_new w _)
     have hR0 : W.heap[w.heap.size + 1]? = some (.cells #[Value.int IntKind.i64 0, Value.slice none 0 0] 25 (0, 0)) := by
       rw [← hW]
       have := heap_alloc_new (w.alloc (Obj.cells #[Value.int IntKind.i64 n, Value.slice A es.length c] 25)) (Obj.cells #[Value.int IntKind.i64 0, Value.slice none 0 0] 25)
       rwa [World.size_alloc] at this
     have hsz : W.heap.size = w.heap.size + 2 := by rw [← hW]; simp
     have HA := Lib.hid (fun w' (h : Below W.heap.size W w') => blk2 ((h.block w.heap.size (by omega)).trans hA0))
     have HR := Lib.hid (fun w' (h : Below W.heap.size W w') => blk2 ((h.block (w.heap.size + 1) (by omega)).trans hR0))
     clear hW hA0 hR0 hr)
    go_upto_region 12 with (first | (go_at_call 31; go_loud (refine (HRt _ ?_).mono ?_; exact hr1; rintro e w1 ⟨rfl, hb1⟩; obtain ⟨a0, a1, a2, a3, a4⟩ := HA.out _ hb1; obtain ⟨r0, r1, r2, r3, r4⟩ := HR.out _ hb1)) | (go_at_call 66; go_loud (refine (HTh _).mono ?_; rintro e w2 ⟨rfl, rfl⟩)) | (go_at_call 70; go_loud (refine (HPl _ (hr1.below hb1)).mono ?_; rintro e w3 ⟨rfl, hb3'⟩; have hb3 := hb1.trans (hb3'.mono hb1.size); obtain ⟨c0, c1, c2, c3, c4⟩ := HA.out _ hb3; obtain ⟨t0, t1, t2, t3, t4⟩ := HR.out _ hb3)))
    have HS := Lib.hid (fun (w' : World) (h : Below W.heap.size W w') => (⟨(HA.out w' h).1, (HA.out w' h).2.1⟩ : w'.cell? ⟨w.heap.size, 0, none⟩ = some (.int .i64 n) ∧ w'.cell? ⟨w.heap.size, 1, none⟩ = some (.slice A es.length c)))
    have hs3 := hb3.size
    go_region_held3 (fun w' => w'.cell? ⟨w.heap.size, 0, none⟩ = some (.int .i64 n) ∧ w'.cell? ⟨w.heap.size, 1, none⟩ = some (.slice A es.length c)) (first | exact ⟨y0, y1⟩ | (simp [go_sem, y0, y1]; done) | exact HS.out _ hb5 | exact HS.out _ hb4 | (refine HS.out _ ?_; (repeat (first | with_reducible exact Below.refl _ _ | with_reducible assumption | with_reducible refine below_drewN0 ?_ _ | with_reducible refine Below.drew ?_ | with_reducible refine Below.alloc ?_ ?_ _ | with_reducible refine Below.setCell ?_ ?_ _ | go_size | exact Below.size (by assumption))); done))
      (first
        | (go_at_call 87; go_loud (refine (cloneE es A c _ (hr1.below ?_) hc (by omega)).mono ?_; (repeat (first | with_reducible exact Below.refl _ _ | with_reducible assumption | with_reducible refine below_drewN0 ?_ _ | with_reducible refine Below.drew ?_ | with_reducible refine Below.alloc ?_ ?_ _ | with_reducible refine Below.setCell ?_ ?_ _ | go_size | exact Below.size (by assumption))); rintro e w4 ⟨v4, rfl, ho4, hb4'⟩; have hb4 : Below W.heap.size W w4 := Below.trans (by (repeat (first | with_reducible exact Below.refl _ _ | with_reducible assumption | with_reducible refine below_drewN0 ?_ _ | with_reducible refine Below.drew ?_ | with_reducible refine Below.alloc ?_ ?_ _ | with_reducible refine Below.setCell ?_ ?_ _ | go_size | exact Below.size (by assumption)))) (hb4'.mono (by go_size)); have HO4 := Lib.hid (own_cast ho4 (by go_size : W.heap.size ≤ _) rfl rfl); obtain ⟨A4, c4, rfl, _, _⟩ := own_reads0 ho4; clear ho4; obtain ⟨d0, d1, _, _, _⟩ := HR.out _ hb4))
        | (go_at_call 65; go_loud (refine (hHE _).mono ?_; rintro e w5 ⟨rfl, hb5'⟩; have hb5 : Below W.heap.size W w5 := Below.trans (by (repeat (first | with_reducible exact Below.refl _ _ | with_reducible assumption | with_reducible refine below_drewN0 ?_ _ | with_reducible refine Below.drew ?_ | with_reducible refine Below.alloc ?_ ?_ _ | with_reducible refine Below.setCell ?_ ?_ _ | go_size | exact Below.size (by assumption)))) (hb5'.mono (by have := hb4.size; go_size)); have HO5 := Lib.hid (own_below0 (own_below0 HO4.out (Below.refl _ _)) (hb5'.mono (by go_size))); obtain ⟨f0, f1, _, _, _⟩ := HR.out _ hb5))
        | (go_at_call 86; go_loud (
           refine (insertE es p x y W.heap.size w5.heap.size (.slice A4 es.length c4) _ ?_ ?_ (by omega) hp ?_ ?_).mono ?_
           · exact own_below0 HO5.out (by (repeat (first | with_reducible exact Below.refl _ _ | with_reducible assumption | with_reducible refine below_drewN0 ?_ _ | with_reducible refine Below.drew ?_ | with_reducible refine Below.alloc ?_ ?_ _ | with_reducible refine Below.setCell ?_ ?_ _ | go_size | exact Below.size (by assumption))))
           · have := hb5.size; go_size
           · intro h9; have := (own_lt0 HO5.out _ h9).2; omega
           · exact heap_alloc_new w5 _
           rintro e w6 ⟨v6, rfl, ho6, hb6'⟩
           have hb6 : Below W.heap.size W w6 := Below.trans (by (repeat (first | with_reducible exact Below.refl _ _ | with_reducible assumption | with_reducible refine below_drewN0 ?_ _ | with_reducible refine Below.drew ?_ | with_reducible refine Below.alloc ?_ ?_ _ | with_reducible refine Below.setCell ?_ ?_ _ | go_size | exact Below.size (by assumption)))) hb6'
           have HO6 : Hid (w6.ownsRow W.heap.size 28 2 v6 (es.length + 1) (pcells (putE es (x, y)))) := own_cast ho6 (Nat.le_refl _) (by simp; omega) (by rw [HPE.out])
           clear ho6
           obtain ⟨A6, c6, rfl, _, _⟩ := own_reads0 HO6.out
           obtain ⟨y0, y1, _, _, _⟩ := HA.out _ hb6
           obtain ⟨z0, z1, z2, z3, z4⟩ := HR.out _ hb6)))
    go_wp2_with fail
    refine bodyPost_ret (v := .tuple #[.agg #[.int .i64 n, .slice A6 (es.length + 1) c6], .int .i64 0]) (by simp [results, Try.results57, go_sem, z0, z1]) rfl ?_
    refine .inr ⟨HE.out, _, rfl, ?_, hbW.trans (Below.trans (hb6.mono (by omega)) (by (repeat (first | with_reducible exact Below.refl _ _ | with_reducible assumption | with_reducible refine below_drewN0 ?_ _ | with_reducible refine Below.drew ?_ | with_reducible refine Below.alloc ?_ ?_ _ | with_reducible refine Below.setCell ?_ ?_ _ | go_size | exact Below.size (by assumption)))))⟩
    have h5 := HO6.out
    rw [← HX.out, ← HY.out]
    exact own_cast (own_set (own_set h5 (by dsimp only; omega) _) (by dsimp only; omega) _) (by omega) rfl rfl

end Go.Proofs.Ytglhdoibglafbaa

/- The walk of graph.Remove. -/
namespace Go.Proofs.Ytglhdoibglafbaa
open Go Go.RowKit
set_option maxRecDepth 100000
set_option linter.unusedVariables false
set_option linter.unusedSimpArgs false


/-- What Remove leaves: a graph with an edge less, or why not. -/
def RemPost (n : Int) (es : List (Int × Int)) (a b : Int) (w : World) (e : Ending) (w' : World) : Prop :=
  (rmErr n es a b ≠ 0 ∧ e = .returned (.tuple #[.agg #[.int .i64 0, .slice none 0 0], .int .i64 (rmErr n es a b)]) ∧ Below w.heap.size w w') ∨
  (rmErr n es a b = 0 ∧ ∃ v, e = .returned (.tuple #[.agg #[.int .i64 n, v], .int .i64 0]) ∧ w'.ownsRow w.heap.size 28 2 v (rmL n es a b).length (pcells (rmL n es a b)) ∧ Below w.heap.size w w')

theorem RemPost.err {n : Int} {es : List (Int × Int)} {a b : Int} {w w' : World} {e : Ending} (k : Int) (h : rmErr n es a b = k) (hk : k ≠ 0) (he : e = .returned (.tuple #[.agg #[.int .i64 0, .slice none 0 0], .int .i64 k])) (hb : Below w.heap.size w w') : RemPost n es a b w e w' :=
  .inl ⟨by rw [h]; exact hk, by rw [h]; exact he, hb⟩

set_option maxHeartbeats 4000000 in
theorem remove_any (n a b : Int) (es : List (Int × Int)) (A : Option Addr) (c : Nat) (w : World) (hr : Reads w A (pcells es)) (hc : es.length ≤ c) (hm : es.length ≤ 4611686018427387903) :
    Calls Try.prog 59 #[.agg #[.int .i64 n, .slice A es.length c], .int .i64 a, .int .i64 b] w (RemPost n es a b w) := by
  cases hR : rightB n es with
  | false => exact (remove_bad n a b es A c w hr hc hm hR).mono fun e w' ⟨he, hb⟩ => .err 3 (by unfold rmErr; rw [if_pos hR]) (by omega) he hb
  | true =>
  have hP := (right_iff n es).1 hR
  have hlen := hP.len
  have HRt := fun W hR => right_any n es A c W hR hc hm
  rw [hR] at HRt
  have HTh := fun W => there_any n a b W
  cases hT : (decide (0 ≤ min a b) && decide (max a b < n)) with
  | false =>
    have HE0 : rmErr n es a b = 4 := by
      rw [there_isB] at hT
      unfold rmErr
      rw [if_neg (by simp [hR])]
      cases h1 : isB n a with
      | false => rw [if_pos rfl]
      | true =>
        cases h2 : isB n b with
        | false => rw [if_neg (by simp), if_pos rfl]
        | true => simp [h1, h2] at hT
    have HE := Lib.hid HE0
    rw [hT] at HTh
    clear HE0 hR hT hP hlen
    (go_enter Try.func59, Try.ntmps59
     go_wp2_with fail
     generalize hW : (w.alloc (Obj.cells #[Value.int IntKind.i64 n, Value.slice A es.length c] 25)).alloc (Obj.cells #[Value.int IntKind.i64 0, Value.slice none 0 0] 25) = W
     have hbW : Below w.heap.size w W := by rw [← hW]; (repeat (first | with_reducible exact Below.refl _ _ | with_reducible assumption | with_reducible refine below_drewN0 ?_ _ | with_reducible refine Below.drew ?_ | with_reducible refine Below.alloc ?_ ?_ _ | with_reducible refine Below.setCell ?_ ?_ _ | go_size | exact Below.size (by assumption)))
     have hr1 := hr.below hbW
     have hA0 : W.heap[w.heap.size]? = some (.cells #[Value.int IntKind.i64 n, Value.slice A es.length c] 25 (0, 0)) := by rw [← hW]; exact heap_old (heap_alloc_new w _)
     have hR0 : W.heap[w.heap.size + 1]? = some (.cells #[Value.int IntKind.i64 0, Value.slice none 0 0] 25 (0, 0)) := by
       rw [← hW]
       have := heap_alloc_new (w.alloc (Obj.cells #[Value.int IntKind.i64 n, Value.slice A es.length c] 25)) (Obj.cells #[Value.int IntKind.i64 0, Value.slice none 0 0] 25)
       rwa [World.size_alloc] at this
     have hsz : W.heap.size = w.heap.size + 2 := by rw [← hW]; simp
     have HA := Lib.hid (fun w' (h : Below W.heap.size W w') => blk2 ((h.block w.heap.size (by omega)).trans hA0))
     have HR := Lib.hid (fun w' (h : Below W.heap.size W w') => blk2 ((h.block (w.heap.size + 1) (by omega)).trans hR0))
     clear hW hA0 hR0 hr)
    go_wp2_with (first | (go_at_call 31; go_loud (refine (HRt _ ?_).mono ?_; exact hr1; rintro e w1 ⟨rfl, hb1⟩; obtain ⟨a0, a1, a2, a3, a4⟩ := HA.out _ hb1; obtain ⟨r0, r1, r2, r3, r4⟩ := HR.out _ hb1)) | (go_at_call 66; go_loud (refine (HTh _).mono ?_; rintro e w2 ⟨rfl, rfl⟩)))
    refine bodyPost_ret (v := .tuple #[.agg #[.int .i64 0, .slice none 0 0], .int .i64 4]) (by simp [results, Try.results59, go_sem, r0, r1]) rfl ?_
    exact .err 4 HE.out (by omega) rfl (hbW.trans (Below.trans (hb1.mono (by omega)) (by (repeat (first | with_reducible exact Below.refl _ _ | with_reducible assumption | with_reducible refine below_drewN0 ?_ _ | with_reducible refine Below.drew ?_ | with_reducible refine Below.alloc ?_ ?_ _ | with_reducible refine Below.setCell ?_ ?_ _ | go_size | exact Below.size (by assumption))))))
  | true =>
  have hAB := hT
  rw [there_isB] at hAB
  have hA1 : isB n a = true := by cases h : isB n a <;> simp [h] at hAB ⊢
  have hB1 : isB n b = true := by cases h : isB n b <;> simp [h] at hAB ⊢
  have HE0 : rmErr n es a b = if indexB n es a b < 0 then 7 else 0 := by
    unfold rmErr
    rw [if_neg (by simp [hR]), if_neg (by simp [hA1]), if_neg (by simp [hB1])]
  rw [hT] at HTh
  clear hA1 hB1 hAB
  obtain ⟨p, hp, k1, k2⟩ := lb_ex (min a b, max a b) es hP.inc
  obtain ⟨fnd, k3, k4⟩ : ∃ fnd : Bool, (es[p]? = none → fnd = false) ∧ (∀ d, es[p]? = some d → fnd = decide (cmpE d.1 d.2 (min a b) (max a b) = 0)) := by
    cases hpp : es[p]? with
    | none => exact ⟨false, fun _ => rfl, fun d h => by cases h⟩
    | some d => exact ⟨decide (cmpE d.1 d.2 (min a b) (max a b) = 0), fun h => (by cases h), fun d' h => (by cases h; rfl)⟩
  have HPl0 := fun W hR => place_any n a b es A c W hR hc hm _ _ rfl rfl p hp (fun j e hj he => (cmpE_lt _ _ _ _).2 (k1 j e hj he)) (fun j e hj he => Int.not_lt.1 fun h => k2 j e hj he ((cmpE_lt _ _ _ _).1 h)) fnd k3 k4
  have HF := lb_find (e := (min a b, max a b)) k1 k2 hP.inc fnd k3 k4
  have hlt : fnd = true → p < es.length := fun h => by
    rcases Nat.lt_or_ge p es.length with h9 | h9
    · exact h9
    · have := k3 (List.getElem?_eq_none h9); rw [h] at this; cases this
  have HI : indexB n es a b = if fnd = true then (p : Int) else -1 := by unfold indexB; rw [if_pos hR, HF]
  rw [HI] at HE0
  cases fnd with
  | false =>
    have HE : Hid (rmErr n es a b = 7) := by unfold Hid; rw [HE0]; simp
    clear HE0 hR hT hP hlen HF HI k1 k2 k3 k4 hp hlt
    have HPl := HPl0
    clear HPl0
    (go_enter Try.func59, Try.ntmps59
     go_wp2_with fail
     generalize hW : (w.alloc (Obj.cells #[Value.int IntKind.i64 n, Value.slice A es.length c] 25)).alloc (Obj.cells #[Value.int IntKind.i64 0, Value.slice none 0 0] 25) = W
     have hbW : Below w.heap.size w W := by rw [← hW]; (repeat (first | with_reducible exact Below.refl _ _ | with_reducible assumption | with_reducible refine below_drewN0 ?_ _ | with_reducible refine Below.drew ?_ | with_reducible refine Below.alloc ?_ ?_ _ | with_reducible refine Below.setCell ?_ ?_ _ | go_size | exact Below.size (by assumption)))
     have hr1 := hr.below hbW
     have hA0 : W.heap[w.heap.size]? = some (.cells #[Value.int IntKind.i64 n, Value.slice A es.length c] 25 (0, 0)) := by rw [← hW]; exact heap_old (heap_alloc_new w _)
     have hR0 : W.heap[w.heap.size + 1]? = some (.cells #[Value.int IntKind.i64 0, Value.slice none 0 0] 25 (0, 0)) := by
       rw [← hW]
       have := heap_alloc_new (w.alloc (Obj.cells #[Value.int IntKind.i64 n, Value.slice A es.length c] 25)) (Obj.cells #[Value.int IntKind.i64 0, Value.slice none 0 0] 25)
       rwa [World.size_alloc] at this
     have hsz : W.heap.size = w.heap.size + 2 := by rw [← hW]; simp
     have HA := Lib.hid (fun w' (h : Below W.heap.size W w') => blk2 ((h.block w.heap.size (by omega)).trans hA0))
     have HR := Lib.hid (fun w' (h : Below W.heap.size W w') => blk2 ((h.block (w.heap.size + 1) (by omega)).trans hR0))
     clear hW hA0 hR0 hr)
    go_wp2_with (first | (go_at_call 31; go_loud (refine (HRt _ ?_).mono ?_; exact hr1; rintro e w1 ⟨rfl, hb1⟩; obtain ⟨a0, a1, a2, a3, a4⟩ := HA.out _ hb1; obtain ⟨r0, r1, r2, r3, r4⟩ := HR.out _ hb1)) | (go_at_call 66; go_loud (refine (HTh _).mono ?_; rintro e w2 ⟨rfl, rfl⟩)) | (go_at_call 70; go_loud (refine (HPl _ (hr1.below hb1)).mono ?_; rintro e w3 ⟨rfl, hb3'⟩; have hb3 := hb1.trans (hb3'.mono hb1.size); obtain ⟨c0, c1, c2, c3, c4⟩ := HA.out _ hb3; obtain ⟨t0, t1, t2, t3, t4⟩ := HR.out _ hb3)))
    refine bodyPost_ret (v := .tuple #[.agg #[.int .i64 0, .slice none 0 0], .int .i64 7]) (by simp [results, Try.results59, go_sem, t0, t1]) rfl ?_
    exact .err 7 HE.out (by omega) rfl (hbW.trans (Below.trans (hb3.mono (by omega)) (by (repeat (first | with_reducible exact Below.refl _ _ | with_reducible assumption | with_reducible refine below_drewN0 ?_ _ | with_reducible refine Below.drew ?_ | with_reducible refine Below.alloc ?_ ?_ _ | with_reducible refine Below.setCell ?_ ?_ _ | go_size | exact Below.size (by assumption))))))
  | true =>
    rw [if_pos rfl] at HI
    have hpl := hlt rfl
    have HE : Hid (rmErr n es a b = 0) := by unfold Hid; rw [HE0, if_pos rfl, if_neg (by omega)]
    have HRM : Hid (rmL n es a b = es.take p ++ es.drop (p + 1)) := by unfold Hid rmL; rw [HI]; rfl
    clear HE0 hR hT hP HF HI k1 k2 k3 k4 hp hlt
    have HPl := HPl0
    clear HPl0
    (go_enter Try.func59, Try.ntmps59
     go_wp2_with fail
     generalize hW : (w.alloc (Obj.cells #[Value.int IntKind.i64 n, Value.slice A es.length c] 25)).alloc (Obj.cells #[Value.int IntKind.i64 0, Value.slice none 0 0] 25) = W
     have hbW : Below w.heap.size w W := by rw [← hW]; (repeat (first | with_reducible exact Below.refl _ _ | with_reducible assumption | with_reducible refine below_drewN0 ?_ _ | with_reducible refine Below.drew ?_ | with_reducible refine Below.alloc ?_ ?_ _ | with_reducible refine Below.setCell ?_ ?_ _ | go_size | exact Below.size (by assumption)))
     have hr1 := hr.below hbW
     have hA0 : W.heap[w.heap.size]? = some (.cells #[Value.int IntKind.i64 n, Value.slice A es.length c] 25 (0, 0)) := by rw [← hW]; exact heap_old (heap_alloc_new w _)
     have hR0 : W.heap[w.heap.size + 1]? = some (.cells #[Value.int IntKind.i64 0, Value.slice none 0 0] 25 (0, 0)) := by
       rw [← hW]
       have := heap_alloc_new (w.alloc (Obj.cells #[Value.int IntKind.i64 n, Value.slice A es.length c] 25)) (Obj.cells #[Value.int IntKind.i64 0, Value.slice none 0 0] 25)
       rwa [World.size_alloc] at this
     have hsz : W.heap.size = w.heap.size + 2 := by rw [← hW]; simp
     have HA := Lib.hid (fun w' (h : Below W.heap.size W w') => blk2 ((h.block w.heap.size (by omega)).trans hA0))
     have HR := Lib.hid (fun w' (h : Below W.heap.size W w') => blk2 ((h.block (w.heap.size + 1) (by omega)).trans hR0))
     clear hW hA0 hR0 hr)
    go_upto_region 8 with (first | (go_at_call 31; go_loud (refine (HRt _ ?_).mono ?_; exact hr1; rintro e w1 ⟨rfl, hb1⟩; obtain ⟨a0, a1, a2, a3, a4⟩ := HA.out _ hb1; obtain ⟨r0, r1, r2, r3, r4⟩ := HR.out _ hb1)) | (go_at_call 66; go_loud (refine (HTh _).mono ?_; rintro e w2 ⟨rfl, rfl⟩)) | (go_at_call 70; go_loud (refine (HPl _ (hr1.below hb1)).mono ?_; rintro e w3 ⟨rfl, hb3'⟩; have hb3 := hb1.trans (hb3'.mono hb1.size); obtain ⟨c0, c1, c2, c3, c4⟩ := HA.out _ hb3; obtain ⟨t0, t1, t2, t3, t4⟩ := HR.out _ hb3)))
    have HS := Lib.hid (fun (w' : World) (h : Below W.heap.size W w') => (⟨(HA.out w' h).1, (HA.out w' h).2.1⟩ : w'.cell? ⟨w.heap.size, 0, none⟩ = some (.int .i64 n) ∧ w'.cell? ⟨w.heap.size, 1, none⟩ = some (.slice A es.length c)))
    have hs3 := hb3.size
    have u1 : IntKind.i64.wrap ((p : Int) + 1) = (p : Int) + 1 := by rw [IntKind.wrap_i64]; omega
    go_region_held3 (fun w' => w'.cell? ⟨w.heap.size, 0, none⟩ = some (.int .i64 n) ∧ w'.cell? ⟨w.heap.size, 1, none⟩ = some (.slice A es.length c)) (first | exact ⟨y0, y1⟩ | (simp [go_sem, y0, y1]; done) | exact HS.out _ hb4 | (refine HS.out _ ?_; (repeat (first | with_reducible exact Below.refl _ _ | with_reducible assumption | with_reducible refine below_drewN0 ?_ _ | with_reducible refine Below.drew ?_ | with_reducible refine Below.alloc ?_ ?_ _ | with_reducible refine Below.setCell ?_ ?_ _ | go_size | exact Below.size (by assumption))); done))
      (first
        | (go_at_call 87; go_loud (refine (cloneE es A c _ (hr1.below ?_) hc (by omega)).mono ?_; (repeat (first | with_reducible exact Below.refl _ _ | with_reducible assumption | with_reducible refine below_drewN0 ?_ _ | with_reducible refine Below.drew ?_ | with_reducible refine Below.alloc ?_ ?_ _ | with_reducible refine Below.setCell ?_ ?_ _ | go_size | exact Below.size (by assumption))); rintro e w4 ⟨v4, rfl, ho4, hb4'⟩; have hb4 : Below W.heap.size W w4 := Below.trans (by (repeat (first | with_reducible exact Below.refl _ _ | with_reducible assumption | with_reducible refine below_drewN0 ?_ _ | with_reducible refine Below.drew ?_ | with_reducible refine Below.alloc ?_ ?_ _ | with_reducible refine Below.setCell ?_ ?_ _ | go_size | exact Below.size (by assumption)))) (hb4'.mono (by go_size)); have HO4 := Lib.hid (own_cast ho4 (by go_size : W.heap.size ≤ _) rfl rfl); obtain ⟨A4, c4, rfl, _, _⟩ := own_reads0 ho4; clear ho4; obtain ⟨d0, d1, _, _, _⟩ := HR.out _ hb4))
        | (go_at_call 90; go_loud (
           refine (deleteE es p W.heap.size (.slice A4 es.length c4) _ ?_ hpl (by omega)).mono ?_
           · exact own_below0 HO4.out (by (repeat (first | with_reducible exact Below.refl _ _ | with_reducible assumption | with_reducible refine below_drewN0 ?_ _ | with_reducible refine Below.drew ?_ | with_reducible refine Below.alloc ?_ ?_ _ | with_reducible refine Below.setCell ?_ ?_ _ | go_size | exact Below.size (by assumption))))
           rintro e w6 ⟨v6, rfl, ho6, hb6'⟩
           have hb6 : Below W.heap.size W w6 := Below.trans (by (repeat (first | with_reducible exact Below.refl _ _ | with_reducible assumption | with_reducible refine below_drewN0 ?_ _ | with_reducible refine Below.drew ?_ | with_reducible refine Below.alloc ?_ ?_ _ | with_reducible refine Below.setCell ?_ ?_ _ | go_size | exact Below.size (by assumption)))) hb6'
           have HO6 : Hid (w6.ownsRow W.heap.size 28 2 v6 (rmL n es a b).length (pcells (rmL n es a b))) := own_cast ho6 (Nat.le_refl _) (by rw [HRM.out]) (by rw [HRM.out])
           clear ho6
           obtain ⟨A6, c6, rfl, _, _⟩ := own_reads0 HO6.out
           obtain ⟨y0, y1, _, _, _⟩ := HA.out _ hb6
           obtain ⟨z0, z1, z2, z3, z4⟩ := HR.out _ hb6)))
    go_wp2_with fail
    refine bodyPost_ret (v := .tuple #[.agg #[.int .i64 n, .slice A6 (rmL n es a b).length c6], .int .i64 0]) (by simp [results, Try.results59, go_sem, z0, z1]) rfl ?_
    refine .inr ⟨HE.out, _, rfl, ?_, hbW.trans (Below.trans (hb6.mono (by omega)) (by (repeat (first | with_reducible exact Below.refl _ _ | with_reducible assumption | with_reducible refine below_drewN0 ?_ _ | with_reducible refine Below.drew ?_ | with_reducible refine Below.alloc ?_ ?_ _ | with_reducible refine Below.setCell ?_ ?_ _ | go_size | exact Below.size (by assumption)))))⟩
    have h5 := HO6.out
    exact own_cast (own_set (own_set h5 (by dsimp only; omega) _) (by dsimp only; omega) _) (by omega) rfl rfl

end Go.Proofs.Ytglhdoibglafbaa
