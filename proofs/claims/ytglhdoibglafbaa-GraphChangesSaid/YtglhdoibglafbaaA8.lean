/- The walk of Remove, the document's answer. -/
import Derived.Test.YtglhdoibglafbaaD14
namespace Go.Proofs.Ytglhdoibglafbaa
open Go Go.RowKit
set_option maxRecDepth 100000
set_option linter.unusedVariables false



set_option maxHeartbeats 4000000 in
theorem refRemove (n a b : Int) (es : List (Int × Int)) (A : Option Addr) (c : Nat) (w : World) (hr : Reads w A (pcells es)) (hc : es.length ≤ c) (hm : es.length ≤ 1000000) :
    Calls Try.prog 60 #[.agg #[.int .i64 n, .slice A es.length c], .int .i64 a, .int .i64 b] w (RemPost n es a b w) := by
  have HRt := fun W hR => refRight n es A c W hR hc (by omega)
  have HIa : ∀ W, Calls Try.prog 88 #[.agg #[.int .i64 n, .slice A es.length c], .int .i64 a] W fun e w' => e = .returned (.bool (isB n a)) ∧ Below W.heap.size W w' := fun W => refIs_any n a A es.length c W
  have HIb : ∀ W, Calls Try.prog 88 #[.agg #[.int .i64 n, .slice A es.length c], .int .i64 b] W fun e w' => e = .returned (.bool (isB n b)) ∧ Below W.heap.size W w' := fun W => refIs_any n b A es.length c W
  have HI := fun W hR => refIndex n a b es A c W hR hc (by omega)
  have HE : rmErr n es a b = if rightB n es = false then 3 else if isB n a = false then 4 else if isB n b = false then 4 else if indexB n es a b < 0 then 7 else 0 := rfl
  have hix := index_nat n es a b
  have HRM : Hid (rmL n es a b = es.take (indexB n es a b).toNat ++ es.drop ((indexB n es a b).toNat + 1)) := rfl
  generalize rightB n es = b1 at HRt HE
  generalize isB n a = b2 at HIa HE
  generalize isB n b = b3 at HIb HE
  generalize indexB n es a b = ix at HI HE HRM hix
  have HE1 := Lib.hid HE
  clear HE
  (go_enter Try.func60, Try.ntmps60
   go_wp2_with fail
   generalize hW : (w.alloc (Obj.cells #[Value.int IntKind.i64 n, Value.slice A es.length c] 25)).alloc (Obj.cells #[Value.int IntKind.i64 0, Value.slice none 0 0] 25) = W
   have hbW : Below w.heap.size w W := by rw [← hW]; (repeat (first | with_reducible exact Below.refl _ _ | with_reducible assumption | with_reducible refine below_drewN0 ?_ _ | with_reducible refine Below.drew ?_ | with_reducible refine Below.alloc ?_ ?_ _ | with_reducible refine Below.setCell ?_ ?_ _ | go_size | exact Below.size (by assumption)))
   have hr1 := hr.below hbW
   have hA0 : W.heap[w.heap.size]? = some (.cells #[Value.int IntKind.i64 n, Value.slice A es.length c] 25 (0, 0)) := by rw [← hW]; exact heap_old (heap_alloc_new w _)
   have hR0 : W.heap[w.heap.size + 1]? = some (.cells #[Value.int IntKind.i64 0, Value.slice none 0 0] 25 (0, 0)) := by
     rw [← hW]
     have := heap_alloc_new (w.alloc (Obj.cells #[Value.int IntKind.i64 n, Value.slice A es.length c] 25)) (Obj.cells #[Value.int IntKind.i64 0, Value.slice none 0 0] 25)
     rwa [World.size_alloc] at this
   have hsz : W.heap.size = w.heap.size + 2 := by rw [← hW]; simp
   have HA := Lib.hid (fun w' (h : Below W.heap.size W w') => blk2 ((h.block w.heap.size (by omega)).trans hA0))
   have HR := Lib.hid (fun w' (h : Below W.heap.size W w') => blk2 ((h.block (w.heap.size + 1) (by omega)).trans hR0))
   clear hW hA0 hR0 hr)
  cases b1 with
  | false =>
    go_wp2_with (first | (go_at_call 32; go_loud (refine (HRt _ ?_).mono ?_; exact hr1; rintro e w1 ⟨rfl, hb1⟩; obtain ⟨a0, a1, a2, a3, a4⟩ := HA.out _ hb1; obtain ⟨r0, r1, r2, r3, r4⟩ := HR.out _ hb1)))
    refine bodyPost_ret (v := .tuple #[.agg #[.int .i64 0, .slice none 0 0], .int .i64 3]) (by simp [results, Try.results60, go_sem, r0, r1]) rfl ?_
    exact .err 3 (by simpa using HE1.out) (by omega) rfl (hbW.trans (Below.trans (hb1.mono (by omega)) (by (repeat (first | with_reducible exact Below.refl _ _ | with_reducible assumption | with_reducible refine below_drewN0 ?_ _ | with_reducible refine Below.drew ?_ | with_reducible refine Below.alloc ?_ ?_ _ | with_reducible refine Below.setCell ?_ ?_ _ | go_size | exact Below.size (by assumption))))))
  | true =>
  cases b2 with
  | false =>
    go_wp2_with (first | (go_at_call 32; go_loud (refine (HRt _ ?_).mono ?_; exact hr1; rintro e w1 ⟨rfl, hb1⟩; obtain ⟨a0, a1, a2, a3, a4⟩ := HA.out _ hb1; obtain ⟨r0, r1, r2, r3, r4⟩ := HR.out _ hb1)) | (go_at_call 88; ((with_reducible refine (HIa _).mono ?_); rintro e w2 ⟨rfl, hb2⟩; have hB2 := hb1.trans (hb2.mono hb1.size); obtain ⟨b0, b1, b2, b3, b4⟩ := HA.out _ hB2; obtain ⟨s0, s1, s2, s3, s4⟩ := HR.out _ hB2)))
    refine bodyPost_ret (v := .tuple #[.agg #[.int .i64 0, .slice none 0 0], .int .i64 4]) (by simp [results, Try.results60, go_sem, s0, s1]) rfl ?_
    exact .err 4 (by simpa using HE1.out) (by omega) rfl (hbW.trans (Below.trans (hB2.mono (by omega)) (by (repeat (first | with_reducible exact Below.refl _ _ | with_reducible assumption | with_reducible refine below_drewN0 ?_ _ | with_reducible refine Below.drew ?_ | with_reducible refine Below.alloc ?_ ?_ _ | with_reducible refine Below.setCell ?_ ?_ _ | go_size | exact Below.size (by assumption))))))
  | true =>
  cases b3 with
  | false =>
    go_wp2_with (first | (go_at_call 32; go_loud (refine (HRt _ ?_).mono ?_; exact hr1; rintro e w1 ⟨rfl, hb1⟩; obtain ⟨a0, a1, a2, a3, a4⟩ := HA.out _ hb1; obtain ⟨r0, r1, r2, r3, r4⟩ := HR.out _ hb1)) | (go_at_call 88; ((with_reducible refine (HIb _).mono ?_); rintro e w3 ⟨rfl, hb3⟩; have hB3 := hB2.trans (hb3.mono hB2.size); obtain ⟨c0, c1, c2, c3, c4⟩ := HA.out _ hB3; obtain ⟨t0, t1, t2, t3, t4⟩ := HR.out _ hB3)) | (go_at_call 88; ((with_reducible refine (HIa _).mono ?_); rintro e w2 ⟨rfl, hb2⟩; have hB2 := hb1.trans (hb2.mono hb1.size); obtain ⟨b0, b1, b2, b3, b4⟩ := HA.out _ hB2; obtain ⟨s0, s1, s2, s3, s4⟩ := HR.out _ hB2)))
    refine bodyPost_ret (v := .tuple #[.agg #[.int .i64 0, .slice none 0 0], .int .i64 4]) (by simp [results, Try.results60, go_sem, t0, t1]) rfl ?_
    exact .err 4 (by simpa using HE1.out) (by omega) rfl (hbW.trans (Below.trans (hB3.mono (by omega)) (by (repeat (first | with_reducible exact Below.refl _ _ | with_reducible assumption | with_reducible refine below_drewN0 ?_ _ | with_reducible refine Below.drew ?_ | with_reducible refine Below.alloc ?_ ?_ _ | with_reducible refine Below.setCell ?_ ?_ _ | go_size | exact Below.size (by assumption))))))
  | true =>
  rcases hix with rfl | ⟨k, rfl, hk⟩
  · have HE2 : Hid (rmErr n es a b = 7) := by have := HE1.out; unfold Hid; simpa using this
    go_wp2_with (first | (go_at_call 32; go_loud (refine (HRt _ ?_).mono ?_; exact hr1; rintro e w1 ⟨rfl, hb1⟩; obtain ⟨a0, a1, a2, a3, a4⟩ := HA.out _ hb1; obtain ⟨r0, r1, r2, r3, r4⟩ := HR.out _ hb1)) | (go_at_call 88; ((with_reducible refine (HIb _).mono ?_); rintro e w3 ⟨rfl, hb3⟩; have hB3 := hB2.trans (hb3.mono hB2.size); obtain ⟨c0, c1, c2, c3, c4⟩ := HA.out _ hB3; obtain ⟨t0, t1, t2, t3, t4⟩ := HR.out _ hB3)) | (go_at_call 88; ((with_reducible refine (HIa _).mono ?_); rintro e w2 ⟨rfl, hb2⟩; have hB2 := hb1.trans (hb2.mono hb1.size); obtain ⟨b0, b1, b2, b3, b4⟩ := HA.out _ hB2; obtain ⟨s0, s1, s2, s3, s4⟩ := HR.out _ hB2)) | (go_at_call 36; go_loud (refine (HI _ ?_).mono ?_; exact hr1.below hB3; rintro e w4 ⟨rfl, hb4⟩; have hB4 := hB3.trans (hb4.mono hB3.size); obtain ⟨d0, d1, d2, d3, d4⟩ := HA.out _ hB4; obtain ⟨u0, u1, u2, u3, u4⟩ := HR.out _ hB4)))
    refine bodyPost_ret (v := .tuple #[.agg #[.int .i64 0, .slice none 0 0], .int .i64 7]) (by simp [results, Try.results60, go_sem, u0, u1]) rfl ?_
    exact .err 7 HE2.out (by omega) rfl (hbW.trans (Below.trans (hB4.mono (by omega)) (by (repeat (first | with_reducible exact Below.refl _ _ | with_reducible assumption | with_reducible refine below_drewN0 ?_ _ | with_reducible refine Below.drew ?_ | with_reducible refine Below.alloc ?_ ?_ _ | with_reducible refine Below.setCell ?_ ?_ _ | go_size | exact Below.size (by assumption))))))
  · have HE2 : Hid (rmErr n es a b = 0) := by have := HE1.out; unfold Hid; rw [this]; simp; try omega
    have HRM2 : Hid (rmL n es a b = es.take k ++ es.drop (k + 1)) := HRM.out
    clear HRM
    have hkn : ¬ ((k : Int) < 0) := by omega
    obtain ⟨⟨x0, y0⟩, hxy⟩ : ∃ e, es[k]? = some e := ⟨es[k], by simp⟩
    obtain ⟨bA, oA, hA, hbA, _, _⟩ := hr1.pair' k _ hxy
    subst hA
    clear hxy
    have hlen := pcells_length es
    have HRT0 : Reads W (some ⟨bA, oA, none⟩) (pcells (es.take k)) := by
      have := hr1.cut c 0 k 2 (Nat.zero_le _) (by rw [hlen]; omega) (by rw [hlen]; omega) (by omega)
      rw [if_neg (by omega), addr_map, Nat.zero_mul, Nat.add_zero] at this
      simp only [List.drop_zero] at this
      rw [pcells_take]
      exact this
    have HRD0 : Reads W (if c = k + 1 then (some ⟨bA, oA, none⟩ : Option Addr) else (some ⟨bA, oA + (k + 1) * 2, none⟩ : Option Addr)) (pcells (es.drop (k + 1))) := by
      have := hr1.cut c (k + 1) es.length 2 (by omega) (by rw [hlen]; omega) (by rw [hlen]; omega) (by omega)
      rw [List.take_of_length_le (by rw [hlen]; omega), addr_map] at this
      rw [pcells_drop]
      exact this
    have HL1 : Hid ((pcells (es.take k)).length = k * 2) := by unfold Hid; rw [pcells_length]; simp; omega
    have HL2 : Hid ((pcells (es.drop (k + 1))).length = (es.length - (k + 1)) * 2) := by unfold Hid; rw [pcells_length]; simp; omega
    clear hlen
    have q1 : (0 : Int) ≤ (k : Int) + 1 := by omega
    have q2 : ((k : Int) + 1).toNat = k + 1 := by omega
    have q3 : (k : Int) ≤ (c : Int) := by omega
    have q4 : (k : Int) ≤ (es.length : Int) := by omega
    have q5 : (k : Int) + 1 ≤ (es.length : Int) := by omega
    have q6 : (k : Int) + 1 ≤ (c : Int) := by omega
    by_cases hck : c = k + 1
    · rw [if_pos hck] at HRD0
      have HRT := Lib.hid HRT0
      have HRD := Lib.hid HRD0
      have hl : es.length = k + 1 := by omega
      have HLE := Lib.hid hl
      subst hck
      clear HRT0 HRD0 hl
      (go_upto_region 8 with (first | (go_at_call 32; go_loud (refine (HRt _ ?_).mono ?_; exact hr1; rintro e w1 ⟨rfl, hb1⟩; obtain ⟨a0, a1, a2, a3, a4⟩ := HA.out _ hb1; obtain ⟨r0, r1, r2, r3, r4⟩ := HR.out _ hb1)) | (go_at_call 88; ((with_reducible refine (HIb _).mono ?_); rintro e w3 ⟨rfl, hb3⟩; have hB3 := hB2.trans (hb3.mono hB2.size); obtain ⟨c0, c1, c2, c3, c4⟩ := HA.out _ hB3; obtain ⟨t0, t1, t2, t3, t4⟩ := HR.out _ hB3)) | (go_at_call 88; ((with_reducible refine (HIa _).mono ?_); rintro e w2 ⟨rfl, hb2⟩; have hB2 := hb1.trans (hb2.mono hb1.size); obtain ⟨b0, b1, b2, b3, b4⟩ := HA.out _ hB2; obtain ⟨s0, s1, s2, s3, s4⟩ := HR.out _ hB2)) | (go_at_call 36; go_loud (refine (HI _ ?_).mono ?_; exact hr1.below hB3; rintro e w4 ⟨rfl, hb4⟩; have hB4 := hB3.trans (hb4.mono hB3.size); obtain ⟨d0, d1, d2, d3, d4⟩ := HA.out _ hB4; obtain ⟨u0, u1, u2, u3, u4⟩ := HR.out _ hB4)))
       have HS := Lib.hid (fun (w' : World) (h : Below W.heap.size W w') => (⟨(HA.out w' h).1, (HA.out w' h).2.1⟩ : w'.cell? ⟨w.heap.size, 0, none⟩ = some (.int .i64 n) ∧ w'.cell? ⟨w.heap.size, 1, none⟩ = some (.slice (some ⟨bA, oA, none⟩) es.length (k + 1))))
       have hs4 := hB4.size
       have q7 : (k : Int) ≤ (k : Int) + 1 := by omega
       have q8 : k ≤ k + 1 := by omega
       have q9 : k ≤ es.length := by omega
       have q10 : k + 1 ≤ es.length := by omega
       have u1 : IntKind.i64.wrap ((k : Int) + 1) = (k : Int) + 1 := by rw [IntKind.wrap_i64]; omega
       go_region_held3 (fun w' => w'.cell? ⟨w.heap.size, 0, none⟩ = some (.int .i64 n) ∧ w'.cell? ⟨w.heap.size, 1, none⟩ = some (.slice (some ⟨bA, oA, none⟩) es.length (k + 1))) (first | exact ⟨y0, y1⟩ | (simp [go_sem, y0, y1]; done) | exact HS.out _ hb5 | (refine HS.out _ ?_; (repeat (first | with_reducible exact Below.refl _ _ | with_reducible assumption | with_reducible refine below_drewN0 ?_ _ | with_reducible refine Below.drew ?_ | with_reducible refine Below.alloc ?_ ?_ _ | with_reducible refine Below.setCell ?_ ?_ _ | go_size | exact Below.size (by assumption))); done))
         (first
           | (go_loud (
              refine step_app EI_edge rfl (.const (.slice none 0 0)) (.tmp 36) rfl W.heap.size (.slice none 0 0) 0 [] rfl (own_nil0 _ _ _ _) (some ⟨bA, oA, none⟩) k _ (pcells (es.take k)) rfl ?_ HL1.out (pcells_one _) ?_ ?_ ?_
              · exact HRT.out.below (by (repeat (first | with_reducible exact Below.refl _ _ | with_reducible assumption | with_reducible refine below_drewN0 ?_ _ | with_reducible refine Below.drew ?_ | with_reducible refine Below.alloc ?_ ?_ _ | with_reducible refine Below.setCell ?_ ?_ _ | go_size | exact Below.size (by assumption))))
              · omega
              · go_size
              intro v5 w5 hown5 hg5 hat5
              have hb5 : Below W.heap.size W w5 := below_app (by (repeat (first | with_reducible exact Below.refl _ _ | with_reducible assumption | with_reducible refine below_drewN0 ?_ _ | with_reducible refine Below.drew ?_ | with_reducible refine Below.alloc ?_ ?_ _ | with_reducible refine Below.setCell ?_ ?_ _ | go_size | exact Below.size (by assumption)))) hg5 (by go_size) (by simp [Value.ownBlock])))
           | (go_loud (
              refine step_app EI_edge rfl (.tmp 37) (.tmp 42) rfl W.heap.size v5 (0 + k) ([] ++ pcells (es.take k)) rfl ?_ ((some ⟨bA, oA, none⟩)) (0) _ ([]) rfl ?_ ?_ ?_ ?_ ?_ ?_
              · first | exact hown5 | exact own_below0 hown5 (by (repeat (first | with_reducible exact Below.refl _ _ | with_reducible assumption | with_reducible refine below_drewN0 ?_ _ | with_reducible refine Below.drew ?_ | with_reducible refine Below.alloc ?_ ?_ _ | with_reducible refine Below.setCell ?_ ?_ _ | go_size | exact Below.size (by assumption))))
              · exact .inl rfl
              · simp
              · simp
              · omega
              · first | exact hb5.size | (have := hb5.size; go_size)
              intro v6 w6 hown6 hg6 hat6
              have hb6 : Below W.heap.size W w6 := below_app (by (repeat (first | with_reducible exact Below.refl _ _ | with_reducible assumption | with_reducible refine below_drewN0 ?_ _ | with_reducible refine Below.drew ?_ | with_reducible refine Below.alloc ?_ ?_ _ | with_reducible refine Below.setCell ?_ ?_ _ | go_size | exact Below.size (by assumption)))) hg6 (by have := hb5.size; go_size) (fun g hg => (own_lt0 hown5 g hg).1)
              have HO6 : Hid (w6.ownsRow W.heap.size 28 2 v6 (rmL n es a b).length (pcells (rmL n es a b))) := own_cast hown6 (Nat.le_refl _) (by rw [HRM2.out]; (have := HLE.out; simp; omega)) (by rw [HRM2.out, pcells_append]; (rw [List.drop_of_length_le (by have := HLE.out; omega)]; simp [pcells]))
              clear hown6
              obtain ⟨A6, c6, rfl, _, _⟩ := own_reads0 HO6.out
              obtain ⟨y0, y1, _, _, _⟩ := HA.out _ hb6
              obtain ⟨z0, z1, z2, z3, z4⟩ := HR.out _ hb6)))
       all_goals
         go_wp2_with fail
         refine bodyPost_ret (v := .tuple #[.agg #[.int .i64 n, .slice A6 (rmL n es a b).length c6], .int .i64 0]) (by simp [results, Try.results60, go_sem, z0, z1]) rfl ?_
         refine .inr ⟨HE2.out, _, rfl, ?_, hbW.trans (Below.trans (hb6.mono (by omega)) (by (repeat (first | with_reducible exact Below.refl _ _ | with_reducible assumption | with_reducible refine below_drewN0 ?_ _ | with_reducible refine Below.drew ?_ | with_reducible refine Below.alloc ?_ ?_ _ | with_reducible refine Below.setCell ?_ ?_ _ | go_size | exact Below.size (by assumption)))))⟩
         have h5 := HO6.out
         exact own_cast (own_set (own_set h5 (by dsimp only; omega) _) (by dsimp only; omega) _) (by omega) rfl rfl)
    · rw [if_neg hck] at HRD0
      have HRT := Lib.hid HRT0
      have HRD := Lib.hid HRD0
      clear HRT0 HRD0
      (go_upto_region 8 with (first | (go_at_call 32; go_loud (refine (HRt _ ?_).mono ?_; exact hr1; rintro e w1 ⟨rfl, hb1⟩; obtain ⟨a0, a1, a2, a3, a4⟩ := HA.out _ hb1; obtain ⟨r0, r1, r2, r3, r4⟩ := HR.out _ hb1)) | (go_at_call 88; ((with_reducible refine (HIb _).mono ?_); rintro e w3 ⟨rfl, hb3⟩; have hB3 := hB2.trans (hb3.mono hB2.size); obtain ⟨c0, c1, c2, c3, c4⟩ := HA.out _ hB3; obtain ⟨t0, t1, t2, t3, t4⟩ := HR.out _ hB3)) | (go_at_call 88; ((with_reducible refine (HIa _).mono ?_); rintro e w2 ⟨rfl, hb2⟩; have hB2 := hb1.trans (hb2.mono hb1.size); obtain ⟨b0, b1, b2, b3, b4⟩ := HA.out _ hB2; obtain ⟨s0, s1, s2, s3, s4⟩ := HR.out _ hB2)) | (go_at_call 36; go_loud (refine (HI _ ?_).mono ?_; exact hr1.below hB3; rintro e w4 ⟨rfl, hb4⟩; have hB4 := hB3.trans (hb4.mono hB3.size); obtain ⟨d0, d1, d2, d3, d4⟩ := HA.out _ hB4; obtain ⟨u0, u1, u2, u3, u4⟩ := HR.out _ hB4)))
       have HS := Lib.hid (fun (w' : World) (h : Below W.heap.size W w') => (⟨(HA.out w' h).1, (HA.out w' h).2.1⟩ : w'.cell? ⟨w.heap.size, 0, none⟩ = some (.int .i64 n) ∧ w'.cell? ⟨w.heap.size, 1, none⟩ = some (.slice (some ⟨bA, oA, none⟩) es.length c)))
       have hs4 := hB4.size
       have q7 : (k : Int) ≤ (k : Int) + 1 := by omega
       have q8 : k ≤ k + 1 := by omega
       have q9 : k ≤ es.length := by omega
       have q10 : k + 1 ≤ es.length := by omega
       have u1 : IntKind.i64.wrap ((k : Int) + 1) = (k : Int) + 1 := by rw [IntKind.wrap_i64]; omega
       go_region_held3 (fun w' => w'.cell? ⟨w.heap.size, 0, none⟩ = some (.int .i64 n) ∧ w'.cell? ⟨w.heap.size, 1, none⟩ = some (.slice (some ⟨bA, oA, none⟩) es.length c)) (first | exact ⟨y0, y1⟩ | (simp [go_sem, y0, y1]; done) | exact HS.out _ hb5 | (refine HS.out _ ?_; (repeat (first | with_reducible exact Below.refl _ _ | with_reducible assumption | with_reducible refine below_drewN0 ?_ _ | with_reducible refine Below.drew ?_ | with_reducible refine Below.alloc ?_ ?_ _ | with_reducible refine Below.setCell ?_ ?_ _ | go_size | exact Below.size (by assumption))); done))
         (first
           | (go_loud (
              refine step_app EI_edge rfl (.const (.slice none 0 0)) (.tmp 36) rfl W.heap.size (.slice none 0 0) 0 [] rfl (own_nil0 _ _ _ _) (some ⟨bA, oA, none⟩) k _ (pcells (es.take k)) rfl ?_ HL1.out (pcells_one _) ?_ ?_ ?_
              · exact HRT.out.below (by (repeat (first | with_reducible exact Below.refl _ _ | with_reducible assumption | with_reducible refine below_drewN0 ?_ _ | with_reducible refine Below.drew ?_ | with_reducible refine Below.alloc ?_ ?_ _ | with_reducible refine Below.setCell ?_ ?_ _ | go_size | exact Below.size (by assumption))))
              · omega
              · go_size
              intro v5 w5 hown5 hg5 hat5
              have hb5 : Below W.heap.size W w5 := below_app (by (repeat (first | with_reducible exact Below.refl _ _ | with_reducible assumption | with_reducible refine below_drewN0 ?_ _ | with_reducible refine Below.drew ?_ | with_reducible refine Below.alloc ?_ ?_ _ | with_reducible refine Below.setCell ?_ ?_ _ | go_size | exact Below.size (by assumption)))) hg5 (by go_size) (by simp [Value.ownBlock])))
           | (go_loud (
              refine step_app EI_edge rfl (.tmp 37) (.tmp 42) rfl W.heap.size v5 (0 + k) ([] ++ pcells (es.take k)) rfl ?_ ((some ⟨bA, oA + (k + 1) * 2, none⟩)) ((es.length - (k + 1))) _ (pcells (es.drop (k + 1))) rfl ?_ ?_ ?_ ?_ ?_ ?_
              · first | exact hown5 | exact own_below0 hown5 (by (repeat (first | with_reducible exact Below.refl _ _ | with_reducible assumption | with_reducible refine below_drewN0 ?_ _ | with_reducible refine Below.drew ?_ | with_reducible refine Below.alloc ?_ ?_ _ | with_reducible refine Below.setCell ?_ ?_ _ | go_size | exact Below.size (by assumption))))
              · exact HRD.out.below (by first | exact hb5 | (repeat (first | with_reducible assumption | with_reducible refine below_drewN0 ?_ _ | with_reducible refine Below.drew ?_)))
              · exact HL2.out
              · exact pcells_one _
              · omega
              · first | exact hb5.size | (have := hb5.size; go_size)
              intro v6 w6 hown6 hg6 hat6
              have hb6 : Below W.heap.size W w6 := below_app (by (repeat (first | with_reducible exact Below.refl _ _ | with_reducible assumption | with_reducible refine below_drewN0 ?_ _ | with_reducible refine Below.drew ?_ | with_reducible refine Below.alloc ?_ ?_ _ | with_reducible refine Below.setCell ?_ ?_ _ | go_size | exact Below.size (by assumption)))) hg6 (by have := hb5.size; go_size) (fun g hg => (own_lt0 hown5 g hg).1)
              have HO6 : Hid (w6.ownsRow W.heap.size 28 2 v6 (rmL n es a b).length (pcells (rmL n es a b))) := own_cast hown6 (Nat.le_refl _) (by rw [HRM2.out]; (simp; omega)) (by rw [HRM2.out, pcells_append]; (simp [pcells]))
              clear hown6
              obtain ⟨A6, c6, rfl, _, _⟩ := own_reads0 HO6.out
              obtain ⟨y0, y1, _, _, _⟩ := HA.out _ hb6
              obtain ⟨z0, z1, z2, z3, z4⟩ := HR.out _ hb6)))
       all_goals
         go_wp2_with fail
         refine bodyPost_ret (v := .tuple #[.agg #[.int .i64 n, .slice A6 (rmL n es a b).length c6], .int .i64 0]) (by simp [results, Try.results60, go_sem, z0, z1]) rfl ?_
         refine .inr ⟨HE2.out, _, rfl, ?_, hbW.trans (Below.trans (hb6.mono (by omega)) (by (repeat (first | with_reducible exact Below.refl _ _ | with_reducible assumption | with_reducible refine below_drewN0 ?_ _ | with_reducible refine Below.drew ?_ | with_reducible refine Below.alloc ?_ ?_ _ | with_reducible refine Below.setCell ?_ ?_ _ | go_size | exact Below.size (by assumption)))))⟩
         have h5 := HO6.out
         exact own_cast (own_set (own_set h5 (by dsimp only; omega) _) (by dsimp only; omega) _) (by omega) rfl rfl)

end Go.Proofs.Ytglhdoibglafbaa
