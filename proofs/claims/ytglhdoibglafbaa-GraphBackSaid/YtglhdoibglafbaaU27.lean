/- The walk of Remove, the document's answer. -/
import Derived.Test.YtglhdoibglafbaaU26
import Derived.Test.YtglhdoibglafbaaU04
import Derived.Test.YtglhdoibglafbaaU14
import Derived.Test.YtglhdoibglafbaaU24
namespace Go.Proofs.Ytglhdoibglafbaa
open Go Go.RowKit
set_option maxRecDepth 100000
set_option linter.unusedVariables false
set_option linter.unusedSimpArgs false



set_option maxHeartbeats 4000000 in
theorem refRemove (n a b : Int) (es : List (Int × Int)) (A : Option Addr) (c : Nat) (w : World) (hr : Reads w A (pcells es)) (hc : es.length ≤ c) (hm : es.length ≤ 1000000) :
    Calls Try.prog 60 #[.agg #[.int .i64 n, .slice A es.length c], .int .i64 a, .int .i64 b] w (RemPost n es a b w) := by
  have HRt := fun W hR => refRight n es A c W hR hc (by omega)
  have HIa : ∀ W, Calls Try.prog 88 #[.agg #[.int .i64 n, .slice A es.length c], .int .i64 a] W fun e w' => e = .returned (.bool (isB n a)) ∧ Below W.heap.size W w' := fun W => refIs_any n a A es.length c W
  have HIb : ∀ W, Calls Try.prog 88 #[.agg #[.int .i64 n, .slice A es.length c], .int .i64 b] W fun e w' => e = .returned (.bool (isB n b)) ∧ Below W.heap.size W w' := fun W => refIs_any n b A es.length c W
  have HI := fun W hR => refIndex n a b es A c W hR hc (by omega)
  have HE : rmErr n es a b = if rightB n es = false then 3 else if isB n a = false then 4 else if isB n b = false then 4 else if indexB n es a b < 0 then 7 else 0 := rfl
  have hix := index_nat n es a b
  have HRM : Hid (rmL n es a b = es.take (indexB n es a b).toNat ++ es.drop ((indexB n es a b).toNat + 1)) := rfl
  generalize rightB n es = b1 at HRt HE
  generalize isB n a = b2 at HIa HE
  generalize isB n b = b3 at HIb HE
  generalize indexB n es a b = ix at HI HE HRM hix
  have HE1 := Lib.hid HE
  clear HE
  (go_enter Try.func60, Try.ntmps60
   go_wp2_with fail
   generalize hW : (w.alloc (Obj.cells #[Value.int IntKind.i64 n, Value.slice A es.length c] 25)).alloc (Obj.cells #[Value.int IntKind.i64 0, Value.slice none 0 0] 25) = W
   have hbW : Below w.heap.size w W := by rw [← hW]; (repeat (first | with_reducible exact Below.refl _ _ | with_reducible assumption | with_reducible refine below_drewN0 ?_ _ | with_reducible refine Below.drew ?_ | with_reducible refine Below.alloc ?_ ?_ _ | with_reducible refine Below.setCell ?_ ?_ _ | go_size | exact Below.size (by assumption)))
   have hr1 := hr.below hbW
   have hA0 : W.heap[w.heap.size]? = some (.cells #[Value.int IntKind.i64 n, Value.slice A es.length c] 25 (0, 0)) := by rw [← hW]; exact heap_old (heap_alloc_new w _)
   have hR0 : W.heap[w.heap.size + 1]? = some (.cells #[Value.int IntKind.i64 0, Value.slice none 0 0] 25 (0, 0)) := by
     rw [← hW]
     have := heap_alloc_new (w.alloc (Obj.cells #[Value.int IntKind.i64 n, Value.slice A es.length c] 25)) (Obj.cells #[Value.int IntKind.i64 0, Value.slice none 0 0] 25)
     rwa [World.size_alloc] at this
   have hsz : W.heap.size = w.heap.size + 2 := by rw [← hW]; simp
   have HA := Lib.hid (fun w' (h : Below W.heap.size W w') => blk2 ((h.block w.heap.size (by omega)).trans hA0))
   have HR := Lib.hid (fun w' (h : Below W.heap.size W w') => blk2 ((h.block (w.heap.size + 1) (by omega)).trans hR0))
   clear hW hA0 hR0 hr)
  cases b1 with
  | false =>
    go_wp2_with (first | (go_at_call 32; go_loud (refine (HRt _ ?_).mono ?_; exact hr1; rintro e w1 ⟨rfl, hb1⟩; obtain ⟨a0, a1, a2, a3, a4⟩ := HA.out _ hb1; obtain ⟨r0, r1, r2, r3, r4⟩ := HR.out _ hb1)))
    refine bodyPost_ret (v := .tuple #[.agg #[.int .i64 0, .slice none 0 0], .int .i64 3]) (by simp [results, Try.results60, go_sem, r0, r1]) rfl ?_
    exact .err 3 (by simpa using HE1.out) (by omega) rfl (hbW.trans (Below.trans (hb1.mono (by omega)) (by (repeat (first | with_reducible exact Below.refl _ _ | with_reducible assumption | with_reducible refine below_drewN0 ?_ _ | with_reducible refine Below.drew ?_ | with_reducible refine Below.alloc ?_ ?_ _ | with_reducible refine Below.setCell ?_ ?_ _ | go_size | exact Below.size (by assumption))))))
  | true =>
  cases b2 with
  | false =>
    go_wp2_with (first | (go_at_call 32; go_loud (refine (HRt _ ?_).mono ?_; exact hr1; rintro e w1 ⟨rfl, hb1⟩; obtain ⟨a0, a1, a2, a3, a4⟩ := HA.out _ hb1; obtain ⟨r0, r1, r2, r3, r4⟩ := HR.out _ hb1)) | (go_at_call 88; ((with_reducible refine (HIa _).mono ?_); rintro e w2 ⟨rfl, hb2⟩; have hB2 := hb1.trans (hb2.mono hb1.size); obtain ⟨b0, b1, b2, b3, b4⟩ := HA.out _ hB2; obtain ⟨s0, s1, s2, s3, s4⟩ := HR.out _ hB2)))
    refine bodyPost_ret (v := .tuple #[.agg #[.int .i64 0, .slice none 0 0], .int .i64 4]) (by simp [results, Try.results60, go_sem, s0, s1]) rfl ?_
    exact .err 4 (by simpa using HE1.out) (by omega) rfl (hbW.trans (Below.trans (hB2.mono (by omega)) (by (repeat (first | with_reducible exact Below.refl _ _ | with_reducible assumption | with_reducible refine below_drewN0 ?_ _ | with_reducible refine Below.drew ?_ | with_reducible refine Below.alloc ?_ ?_ _ | with_reducible refine Below.setCell ?_ ?_ _ | go_size | exact Below.size (by assumption))))))
  | true =>
  cases b3 with
  | false =>
    go_wp2_with (first | (go_at_call 32; go_loud (refine (HRt _ ?_).mono ?_; exact hr1; rintro e w1 ⟨rfl, hb1⟩; obtain ⟨a0, a1, a2, a3, a4⟩ := HA.out _ hb1; obtain ⟨r0, r1, r2, r3, r4⟩ := HR.out _ hb1)) | (go_at_call 88; ((with_reducible refine (HIb _).mono ?_); rintro e w3 ⟨rfl, hb3⟩; have hB3 := hB2.trans (hb3.mono hB2.size); obtain ⟨c0, c1, c2, c3, c4⟩ := HA.out _ hB3; obtain ⟨t0, t1, t2, t3, t4⟩ := HR.out _ hB3)) | (go_at_call 88; ((with_reducible refine (HIa _).mono ?_); rintro e w2 ⟨rfl, hb2⟩; have hB2 := hb1.trans (hb2.mono hb1.size); obtain ⟨b0, b1, b2, b3, b4⟩ := HA.out _ hB2; obtain ⟨s0, s1, s2, s3, s4⟩ := HR.out _ hB2)))
    refine bodyPost_ret (v := .tuple #[.agg #[.int .i64 0, .slice none 0 0], .int .i64 4]) (by simp [results, Try.results60, go_sem, t0, t1]) rfl ?_
    exact .err 4 (by simpa using HE1.out) (by omega) rfl (hbW.trans (Below.trans (hB3.mono (by omega)) (by (repeat (first | with_reducible exact Below.refl _ _ | with_reducible assumption | with_reducible refine below_drewN0 ?_ _ | with_reducible refine Below.drew ?_ | with_reducible refine Below.alloc ?_ ?_ _ | with_reducible refine Below.setCell ?_ ?_ _ | go_size | exact Below.size (by assumption))))))
  | true =>
  rcases hix with rfl | ⟨k, rfl, hk⟩
  · have HE2 : Hid (rmErr n es a b = 7) := by have := HE1.out; unfold Hid; simpa using this
    go_wp2_with (first | (go_at_call 32; go_loud (refine (HRt _ ?_).mono ?_; exact hr1; rintro e w1 ⟨rfl, hb1⟩; obtain ⟨a0, a1, a2, a3, a4⟩ := HA.out _ hb1; obtain ⟨r0, r1, r2, r3, r4⟩ := HR.out _ hb1)) | (go_at_call 88; ((with_reducible refine (HIb _).mono ?_); rintro e w3 ⟨rfl, hb3⟩; have hB3 := hB2.trans (hb3.mono hB2.size); obtain ⟨c0, c1, c2, c3, c4⟩ := HA.out _ hB3; obtain ⟨t0, t1, t2, t3, t4⟩ := HR.out _ hB3)) | (go_at_call 88; ((with_reducible refine (HIa _).mono ?_); rintro e w2 ⟨rfl, hb2⟩; have hB2 := hb1.trans (hb2.mono hb1.size); obtain ⟨b0, b1, b2, b3, b4⟩ := HA.out _ hB2; obtain ⟨s0, s1, s2, s3, s4⟩ := HR.out _ hB2)) | (go_at_call 36; go_loud (refine (HI _ ?_).mono ?_; exact hr1.below hB3; rintro e w4 ⟨rfl, hb4⟩; have hB4 := hB3.trans (hb4.mono hB3.size); obtain ⟨d0, d1, d2, d3, d4⟩ := HA.out _ hB4; obtain ⟨u0, u1, u2, u3, u4⟩ := HR.out _ hB4)))
    refine bodyPost_ret (v := .tuple #[.agg #[.int .i64 0, .slice none 0 0], .int .i64 7]) (by simp [results, Try.results60, go_sem, u0, u1]) rfl ?_
    exact .err 7 HE2.out (by omega) rfl (hbW.trans (Below.trans (hB4.mono (by omega)) (by (repeat (first | with_reducible exact Below.refl _ _ | with_reducible assumption | with_reducible refine below_drewN0 ?_ _ | with_reducible refine Below.drew ?_ | with_reducible refine Below.alloc ?_ ?_ _ | with_reducible refine Below.setCell ?_ ?_ _ | go_size | exact Below.size (by assumption))))))
  · have HE2 : Hid (rmErr n es a b = 0) := by have := HE1.out; unfold Hid; rw [this]; simp; try omega
    have HRM2 : Hid (rmL n es a b = es.take k ++ es.drop (k + 1)) := HRM.out
    clear HRM
    have hkn : ¬ ((k : Int) < 0) := by omega
    obtain ⟨⟨x0, y0⟩, hxy⟩ : ∃ e, es[k]? = some e := ⟨es[k], by simp⟩
    obtain ⟨bA, oA, hA, hbA, _, _⟩ := hr1.pair' k _ hxy
    subst hA
    clear hxy
    have hlen := pcells_length es
    have HRT0 : Reads W (some ⟨bA, oA, none⟩) (pcells (es.take k)) := by
      have := hr1.cut c 0 k 2 (Nat.zero_le _) (by rw [hlen]; omega) (by rw [hlen]; omega) (by omega)
      rw [if_neg (by omega), addr_map, Nat.zero_mul, Nat.add_zero] at this
      simp only [List.drop_zero] at this
      rw [pcells_take]
      exact this
    have HRD0 : Reads W (if c = k + 1 then (some ⟨bA, oA, none⟩ : Option Addr) else (some ⟨bA, oA + (k + 1) * 2, none⟩ : Option Addr)) (pcells (es.drop (k + 1))) := by
      have := hr1.cut c (k + 1) es.length 2 (by omega) (by rw [hlen]; omega) (by rw [hlen]; omega) (by omega)
      rw [List.take_of_length_le (by rw [hlen]; omega), addr_map] at this
      rw [pcells_drop]
      exact this
    have HL1 : Hid ((pcells (es.take k)).length = k * 2) := by unfold Hid; rw [pcells_length]; simp; omega
    have HL2 : Hid ((pcells (es.drop (k + 1))).length = (es.length - (k + 1)) * 2) := by unfold Hid; rw [pcells_length]; simp; omega
    clear hlen
    have q1 : (0 : Int) ≤ (k : Int) + 1 := by omega
    have q2 : ((k : Int) + 1).toNat = k + 1 := by omega
    have q3 : (k : Int) ≤ (c : Int) := by omega
    have q4 : (k : Int) ≤ (es.length : Int) := by omega
    have q5 : (k : Int) + 1 ≤ (es.length : Int) := by omega
    have q6 : (k : Int) + 1 ≤ (c : Int) := by omega
    by_cases hck : c = k + 1
    · rw [if_pos hck] at HRD0
      have HRT := Lib.hid HRT0
      have HRD := Lib.hid HRD0
      have hl : es.length = k + 1 := by omega
      have HLE := Lib.hid hl
      subst hck
      clear HRT0 HRD0 hl
      (go_upto_region 8 with (first | (go_at_call 32; go_loud (refine (HRt _ ?_).mono ?_; exact hr1; rintro e w1 ⟨rfl, hb1⟩; obtain ⟨a0, a1, a2, a3, a4⟩ := HA.out _ hb1; obtain ⟨r0, r1, r2, r3, r4⟩ := HR.out _ hb1)) | (go_at_call 88; ((with_reducible refine (HIb _).mono ?_); rintro e w3 ⟨rfl, hb3⟩; have hB3 := hB2.trans (hb3.mono hB2.size); obtain ⟨c0, c1, c2, c3, c4⟩ := HA.out _ hB3; obtain ⟨t0, t1, t2, t3, t4⟩ := HR.out _ hB3)) | (go_at_call 88; ((with_reducible refine (HIa _).mono ?_); rintro e w2 ⟨rfl, hb2⟩; have hB2 := hb1.trans (hb2.mono hb1.size); obtain ⟨b0, b1, b2, b3, b4⟩ := HA.out _ hB2; obtain ⟨s0, s1, s2, s3, s4⟩ := HR.out _ hB2)) | (go_at_call 36; go_loud (refine (HI _ ?_).mono ?_; exact hr1.below hB3; rintro e w4 ⟨rfl, hb4⟩; have hB4 := hB3.trans (hb4.mono hB3.size); obtain ⟨d0, d1, d2, d3, d4⟩ := HA.out _ hB4; obtain ⟨u0, u1, u2, u3, u4⟩ := HR.out _ hB4)))
       have HS := Lib.hid (fun (w' : World) (h : Below W.heap.size W w') => (⟨(HA.out w' h).1, (HA.out w' h).2.1⟩ : w'.cell? ⟨w.heap.size, 0, none⟩ = some (.int .i64 n) ∧ w'.cell? ⟨w.heap.size, 1, none⟩ = some (.slice (some ⟨bA, oA, none⟩) es.length (k + 1))))
       have hs4 := hB4.size
       have q7 : (k : Int) ≤ (k : Int) + 1 := by omega
       have q8 : k ≤ k + 1 := by omega
       have q9 : k ≤ es.length := by omega
       have q10 : k + 1 ≤ es.length := by omega
       have u1 : IntKind.i64.wrap ((k : Int) + 1) = (k : Int) + 1 := by rw [IntKind.wrap_i64]; omega
       go_region_held3 (fun w' => w'.cell? ⟨w.heap.size, 0, none⟩ = some (.int .i64 n) ∧ w'.cell? ⟨w.heap.size, 1, none⟩ = some (.slice (some ⟨bA, oA, none⟩) es.length (k + 1))) (first | exact ⟨y0, y1⟩ | (simp [go_sem, y0, y1]; done) | exact HS.out _ hb5 | (refine HS.out _ ?_; (repeat (first | with_reducible exact Below.refl _ _ | with_reducible assumption | with_reducible refine below_drewN0 ?_ _ | with_reducible refine Below.drew ?_ | with_reducible refine Below.alloc ?_ ?_ _ | with_reducible refine Below.setCell ?_ ?_ _ | go_size | exact Below.size (by assumption))); done))
         (first
           | (go_loud (
              refine step_app EI_edge rfl (.const (.slice none 0 0)) (.tmp 36) rfl W.heap.size (.slice none 0 0) 0 [] rfl (own_nil0 _ _ _ _) (some ⟨bA, oA, none⟩) k _ (pcells (es.take k)) rfl ?_ HL1.out (pcells_one _) ?_ ?_ ?_
              · exact HRT.out.below (by (repeat (first | with_reducible exact Below.refl _ _ | with_reducible assumption | with_reducible refine below_drewN0 ?_ _ | with_reducible refine Below.drew ?_ | with_reducible refine Below.alloc ?_ ?_ _ | with_reducible refine Below.setCell ?_ ?_ _ | go_size | exact Below.size (by assumption))))
              · omega
              · go_size
              intro v5 w5 hown5 hg5 hat5
              have hb5 : Below W.heap.size W w5 := below_app (by (repeat (first | with_reducible exact Below.refl _ _ | with_reducible assumption | with_reducible refine below_drewN0 ?_ _ | with_reducible refine Below.drew ?_ | with_reducible refine Below.alloc ?_ ?_ _ | with_reducible refine Below.setCell ?_ ?_ _ | go_size | exact Below.size (by assumption)))) hg5 (by go_size) (by simp [Value.ownBlock])))
           | (go_loud (
              refine step_app EI_edge rfl (.tmp 37) (.tmp 42) rfl W.heap.size v5 (0 + k) ([] ++ pcells (es.take k)) rfl ?_ ((some ⟨bA, oA, none⟩)) (0) _ ([]) rfl ?_ ?_ ?_ ?_ ?_ ?_
              · first | exact hown5 | exact own_below0 hown5 (by (repeat (first | with_reducible exact Below.refl _ _ | with_reducible assumption | with_reducible refine below_drewN0 ?_ _ | with_reducible refine Below.drew ?_ | with_reducible refine Below.alloc ?_ ?_ _ | with_reducible refine Below.setCell ?_ ?_ _ | go_size | exact Below.size (by assumption))))
              · exact .inl rfl
              · simp
              · simp
              · omega
              · first | exact hb5.size | (have := hb5.size; go_size)
              intro v6 w6 hown6 hg6 hat6
              have hb6 : Below W.heap.size W w6 := below_app (by (repeat (first | with_reducible exact Below.refl _ _ | with_reducible assumption | with_reducible refine below_drewN0 ?_ _ | with_reducible refine Below.drew ?_ | with_reducible refine Below.alloc ?_ ?_ _ | with_reducible refine Below.setCell ?_ ?_ _ | go_size | exact Below.size (by assumption)))) hg6 (by have := hb5.size; go_size) (fun g hg => (own_lt0 hown5 g hg).1)
              have HO6 : Hid (w6.ownsRow W.heap.size 28 2 v6 (rmL n es a b).length (pcells (rmL n es a b))) := own_cast hown6 (Nat.le_refl _) (by rw [HRM2.out]; (have := HLE.out; simp; omega)) (by rw [HRM2.out, pcells_append]; (rw [List.drop_of_length_le (by have := HLE.out; omega)]; simp [pcells]))
              clear hown6
              obtain ⟨A6, c6, rfl, _, _⟩ := own_reads0 HO6.out
              obtain ⟨y0, y1, _, _, _⟩ := HA.out _ hb6
              obtain ⟨z0, z1, z2, z3, z4⟩ := HR.out _ hb6)))
       all_goals
         go_wp2_with fail
         refine bodyPost_ret (v := .tuple #[.agg #[.int .i64 n, .slice A6 (rmL n es a b).length c6], .int .i64 0]) (by simp [results, Try.results60, go_sem, z0, z1]) rfl ?_
         refine .inr ⟨HE2.out, _, rfl, ?_, hbW.trans (Below.trans (hb6.mono (by omega)) (by (repeat (first | with_reducible exact Below.refl _ _ | with_reducible assumption | with_reducible refine below_drewN0 ?_ _ | with_reducible refine Below.drew ?_ | with_reducible refine Below.alloc ?_ ?_ _ | with_reducible refine Below.setCell ?_ ?_ _ | go_size | exact Below.size (by assumption)))))⟩
         have h5 := HO6.out
         exact own_cast (own_set (own_set h5 (by dsimp only; omega) _) (by dsimp only; omega) _) (by omega) rfl rfl)
    · rw [if_neg hck] at HRD0
      have HRT := Lib.hid HRT0
      have HRD := Lib.hid HRD0
      clear HRT0 HRD0
      (go_upto_region 8 with (first | (go_at_call 32; go_loud (refine (HRt _ ?_).mono ?_; exact hr1; rintro e w1 ⟨rfl, hb1⟩; obtain ⟨a0, a1, a2, a3, a4⟩ := HA.out _ hb1; obtain ⟨r0, r1, r2, r3, r4⟩ := HR.out _ hb1)) | (go_at_call 88; ((with_reducible refine (HIb _).mono ?_); rintro e w3 ⟨rfl, hb3⟩; have hB3 := hB2.trans (hb3.mono hB2.size); obtain ⟨c0, c1, c2, c3, c4⟩ := HA.out _ hB3; obtain ⟨t0, t1, t2, t3, t4⟩ := HR.out _ hB3)) | (go_at_call 88; ((with_reducible refine (HIa _).mono ?_); rintro e w2 ⟨rfl, hb2⟩; have hB2 := hb1.trans (hb2.mono hb1.size); obtain ⟨b0, b1, b2, b3, b4⟩ := HA.out _ hB2; obtain ⟨s0, s1, s2, s3, s4⟩ := HR.out _ hB2)) | (go_at_call 36; go_loud (refine (HI _ ?_).mono ?_; exact hr1.below hB3; rintro e w4 ⟨rfl, hb4⟩; have hB4 := hB3.trans (hb4.mono hB3.size); obtain ⟨d0, d1, d2, d3, d4⟩ := HA.out _ hB4; obtain ⟨u0, u1, u2, u3, u4⟩ := HR.out _ hB4)))
       have HS := Lib.hid (fun (w' : World) (h : Below W.heap.size W w') => (⟨(HA.out w' h).1, (HA.out w' h).2.1⟩ : w'.cell? ⟨w.heap.size, 0, none⟩ = some (.int .i64 n) ∧ w'.cell? ⟨w.heap.size, 1, none⟩ = some (.slice (some ⟨bA, oA, none⟩) es.length c)))
       have hs4 := hB4.size
       have q7 : (k : Int) ≤ (k : Int) + 1 := by omega
       have q8 : k ≤ k + 1 := by omega
       have q9 : k ≤ es.length := by omega
       have q10 : k + 1 ≤ es.length := by omega
       have u1 : IntKind.i64.wrap ((k : Int) + 1) = (k : Int) + 1 := by rw [IntKind.wrap_i64]; omega
       go_region_held3 (fun w' => w'.cell? ⟨w.heap.size, 0, none⟩ = some (.int .i64 n) ∧ w'.cell? ⟨w.heap.size, 1, none⟩ = some (.slice (some ⟨bA, oA, none⟩) es.length c)) (first | exact ⟨y0, y1⟩ | (simp [go_sem, y0, y1]; done) | exact HS.out _ hb5 | (refine HS.out _ ?_; (repeat (first | with_reducible exact Below.refl _ _ | with_reducible assumption | with_reducible refine below_drewN0 ?_ _ | with_reducible refine Below.drew ?_ | with_reducible refine Below.alloc ?_ ?_ _ | with_reducible refine Below.setCell ?_ ?_ _ | go_size | exact Below.size (by assumption))); done))
         (first
           | (go_loud (
              refine step_app EI_edge rfl (.const (.slice none 0 0)) (.tmp 36) rfl W.heap.size (.slice none 0 0) 0 [] rfl (own_nil0 _ _ _ _) (some ⟨bA, oA, none⟩) k _ (pcells (es.take k)) rfl ?_ HL1.out (pcells_one _) ?_ ?_ ?_
              · exact HRT.out.below (by (repeat (first | with_reducible exact Below.refl _ _ | with_reducible assumption | with_reducible refine below_drewN0 ?_ _ | with_reducible refine Below.drew ?_ | with_reducible refine Below.alloc ?_ ?_ _ | with_reducible refine Below.setCell ?_ ?_ _ | go_size | exact Below.size (by assumption))))
              · omega
              · go_size
              intro v5 w5 hown5 hg5 hat5
              have hb5 : Below W.heap.size W w5 := below_app (by (repeat (first | with_reducible exact Below.refl _ _ | with_reducible assumption | with_reducible refine below_drewN0 ?_ _ | with_reducible refine Below.drew ?_ | with_reducible refine Below.alloc ?_ ?_ _ | with_reducible refine Below.setCell ?_ ?_ _ | go_size | exact Below.size (by assumption)))) hg5 (by go_size) (by simp [Value.ownBlock])))
           | (go_loud (
              refine step_app EI_edge rfl (.tmp 37) (.tmp 42) rfl W.heap.size v5 (0 + k) ([] ++ pcells (es.take k)) rfl ?_ ((some ⟨bA, oA + (k + 1) * 2, none⟩)) ((es.length - (k + 1))) _ (pcells (es.drop (k + 1))) rfl ?_ ?_ ?_ ?_ ?_ ?_
              · first | exact hown5 | exact own_below0 hown5 (by (repeat (first | with_reducible exact Below.refl _ _ | with_reducible assumption | with_reducible refine below_drewN0 ?_ _ | with_reducible refine Below.drew ?_ | with_reducible refine Below.alloc ?_ ?_ _ | with_reducible refine Below.setCell ?_ ?_ _ | go_size | exact Below.size (by assumption))))
              · exact HRD.out.below (by first | exact hb5 | (repeat (first | with_reducible assumption | with_reducible refine below_drewN0 ?_ _ | with_reducible refine Below.drew ?_)))
              · exact HL2.out
              · exact pcells_one _
              · omega
              · first | exact hb5.size | (have := hb5.size; go_size)
              intro v6 w6 hown6 hg6 hat6
              have hb6 : Below W.heap.size W w6 := below_app (by (repeat (first | with_reducible exact Below.refl _ _ | with_reducible assumption | with_reducible refine below_drewN0 ?_ _ | with_reducible refine Below.drew ?_ | with_reducible refine Below.alloc ?_ ?_ _ | with_reducible refine Below.setCell ?_ ?_ _ | go_size | exact Below.size (by assumption)))) hg6 (by have := hb5.size; go_size) (fun g hg => (own_lt0 hown5 g hg).1)
              have HO6 : Hid (w6.ownsRow W.heap.size 28 2 v6 (rmL n es a b).length (pcells (rmL n es a b))) := own_cast hown6 (Nat.le_refl _) (by rw [HRM2.out]; (simp; omega)) (by rw [HRM2.out, pcells_append]; (simp [pcells]))
              clear hown6
              obtain ⟨A6, c6, rfl, _, _⟩ := own_reads0 HO6.out
              obtain ⟨y0, y1, _, _, _⟩ := HA.out _ hb6
              obtain ⟨z0, z1, z2, z3, z4⟩ := HR.out _ hb6)))
       all_goals
         go_wp2_with fail
         refine bodyPost_ret (v := .tuple #[.agg #[.int .i64 n, .slice A6 (rmL n es a b).length c6], .int .i64 0]) (by simp [results, Try.results60, go_sem, z0, z1]) rfl ?_
         refine .inr ⟨HE2.out, _, rfl, ?_, hbW.trans (Below.trans (hb6.mono (by omega)) (by (repeat (first | with_reducible exact Below.refl _ _ | with_reducible assumption | with_reducible refine below_drewN0 ?_ _ | with_reducible refine Below.drew ?_ | with_reducible refine Below.alloc ?_ ?_ _ | with_reducible refine Below.setCell ?_ ?_ _ | go_size | exact Below.size (by assumption)))))⟩
         have h5 := HO6.out
         exact own_cast (own_set (own_set h5 (by dsimp only; omega) _) (by dsimp only; omega) _) (by omega) rfl rfl)

end Go.Proofs.Ytglhdoibglafbaa

/- The walk of the law GraphChanges. -/
namespace Go.Proofs.Ytglhdoibglafbaa
open Go Go.RowKit
set_option maxRecDepth 100000
set_option linter.unusedVariables false
set_option linter.unusedSimpArgs false

def chN (err n : Int) : Int := if err = 0 then n else 0
def chL (err : Int) (l : List (Int × Int)) : List (Int × Int) := if err = 0 then l else []
/-- A graph and why not, told. -/
def ChPost (n err : Int) (l : List (Int × Int)) (w : World) (e : Ending) (w' : World) : Prop :=
  ∃ (A : Option Addr) (c : Nat), e = .returned (.tuple #[.agg #[.int .i64 n, .slice A l.length c], .int .i64 err]) ∧ l.length ≤ c ∧ Reads w' A (pcells l) ∧ Below w.heap.size w w'
theorem AddPost.ch {n : Int} {es : List (Int × Int)} {a b : Int} {w w' : World} {e : Ending} (h : AddPost n es a b w e w') : ChPost (chN (addErr n es a b) n) (addErr n es a b) (chL (addErr n es a b) (putE es (min a b, max a b))) w e w' := by
  rcases h with ⟨h0, he, hb⟩ | ⟨h0, v, he, ho, hb⟩
  · rw [chN, chL, if_neg h0, if_neg h0]
    exact ⟨none, 0, he, Nat.le_refl _, .inl rfl, hb⟩
  · rw [h0, chN, chL, if_pos rfl, if_pos rfl]
    obtain ⟨A, c, rfl, hc, hr⟩ := own_reads0 ho
    exact ⟨A, c, by rw [putE_length]; exact he, by rw [putE_length]; exact hc, hr, hb⟩
theorem RemPost.ch {n : Int} {es : List (Int × Int)} {a b : Int} {w w' : World} {e : Ending} (h : RemPost n es a b w e w') : ChPost (chN (rmErr n es a b) n) (rmErr n es a b) (chL (rmErr n es a b) (rmL n es a b)) w e w' := by
  rcases h with ⟨h0, he, hb⟩ | ⟨h0, v, he, ho, hb⟩
  · rw [chN, chL, if_neg h0, if_neg h0]
    exact ⟨none, 0, he, Nat.le_refl _, .inl rfl, hb⟩
  · rw [h0, chN, chL, if_pos rfl, if_pos rfl]
    obtain ⟨A, c, rfl, hc, hr⟩ := own_reads0 ho
    exact ⟨A, c, he, hc, hr, hb⟩

theorem graph_eq (n : Int) (l : List (Int × Int)) (A1 A2 : Option Addr) (c1 c2 : Nat) (w : World) (h1 : Reads w A1 (pcells l)) (h2 : Reads w A2 (pcells l)) (hc1 : l.length ≤ c1) (hc2 : l.length ≤ c2) (hm : l.length ≤ 4611686018427387903) :
    Calls Try.prog 29 #[.agg #[.int .i64 n, .slice A1 l.length c1], .agg #[.int .i64 n, .slice A2 l.length c2]] w fun e w' => e = .returned (.bool true) ∧ Below w.heap.size w w' := by
  have HP := fun W h1 h2 => sameE_plain l l A1 A2 c1 c2 W h1 h2 hc1 hc2 hm hm
  simp only [decide_true] at HP
  go_enter Try.func29, Try.ntmps29
  go_wp2_with (go_at_call 51; refine (HP _ (h1.below ?_) (h2.below ?_)).mono ?_; (repeat (first | with_reducible exact Below.refl _ _ | with_reducible assumption | with_reducible refine below_drewN0 ?_ _ | with_reducible refine Below.drew ?_ | with_reducible refine Below.alloc ?_ ?_ _ | with_reducible refine Below.setCell ?_ ?_ _ | go_size | exact Below.size (by assumption))); (repeat (first | with_reducible exact Below.refl _ _ | with_reducible assumption | with_reducible refine below_drewN0 ?_ _ | with_reducible refine Below.drew ?_ | with_reducible refine Below.alloc ?_ ?_ _ | with_reducible refine Below.setCell ?_ ?_ _ | go_size | exact Below.size (by assumption))); rintro e w1 ⟨rfl, hb1⟩)
  go_ret
  exact ⟨by simp, Below.trans (by (repeat (first | with_reducible exact Below.refl _ _ | with_reducible assumption | with_reducible refine below_drewN0 ?_ _ | with_reducible refine Below.drew ?_ | with_reducible refine Below.alloc ?_ ?_ _ | with_reducible refine Below.setCell ?_ ?_ _ | go_size | exact Below.size (by assumption)))) (hb1.mono (by simp; omega))⟩


set_option maxHeartbeats 4000000 in
theorem changes_any (n a b : Int) (es : List (Int × Int)) (A : Option Addr) (c : Nat) (w : World) (hr : Reads w A (pcells es)) (hc : es.length ≤ c) (hm : es.length ≤ 4611686018427387903) :
    Calls Try.prog 12 #[.agg #[.int .i64 n, .slice A es.length c], .int .i64 a, .int .i64 b] w fun e w' => e = .returned (.bool true) ∧ Below w.heap.size w w' := by
  have HA := fun W => awake02 W
  by_cases h60 : 60 < es.length
  · have h60' : decide ((60 : Int) < (es.length : Int)) = true := decide_eq_true (by omega)
    go_enter Try.func12, Try.ntmps12
    go_wp2_with (first | (go_at_call 25; refine (HA _).mono ?_; rintro e w1 ⟨rfl, hb1⟩))
    go_ret
    exact ⟨rfl, Below.trans (by (repeat (first | with_reducible exact Below.refl _ _ | with_reducible assumption | with_reducible refine below_drewN0 ?_ _ | with_reducible refine Below.drew ?_ | with_reducible refine Below.alloc ?_ ?_ _ | with_reducible refine Below.setCell ?_ ?_ _ | go_size | exact Below.size (by assumption)))) (hb1.mono (by simp))⟩
  have h60' : decide ((60 : Int) < (es.length : Int)) = false := decide_eq_false (by omega)
  have H1 := fun W hR => (add_any n a b es A c W hR hc hm).mono fun e w' h => h.ch
  have H2 := fun W hR => (refAdd n a b es A c W hR hc hm).mono fun e w' h => h.ch
  have H3 := fun W hR => (remove_any n a b es A c W hR hc hm).mono fun e w' h => h.ch
  have H4 := fun W hR => (refRemove n a b es A c W hR hc (by omega)).mono fun e w' h => h.ch
  have hl1 : (chL (addErr n es a b) (putE es (min a b, max a b))).length ≤ 61 := by
    unfold chL
    split
    · rw [putE_length]; omega
    · simp
  have hl2 : (chL (rmErr n es a b) (rmL n es a b)).length ≤ 121 := by
    unfold chL
    split
    · unfold rmL; rw [List.length_append, List.length_take, List.length_drop]; omega
    · simp
  generalize chL (addErr n es a b) (putE es (min a b, max a b)) = L1 at H1 H2 hl1
  generalize chL (rmErr n es a b) (rmL n es a b) = L2 at H3 H4 hl2
  generalize chN (addErr n es a b) n = N1 at H1 H2
  generalize chN (rmErr n es a b) n = N2 at H3 H4
  generalize addErr n es a b = E1 at H1 H2
  generalize rmErr n es a b = E2 at H3 H4
  have HQ1 := fun A1 A2 c1 c2 W h1 h2 hc1 hc2 => graph_eq N1 L1 A1 A2 c1 c2 W h1 h2 hc1 hc2 (by omega)
  have HQ2 := fun A1 A2 c1 c2 W h1 h2 hc1 hc2 => graph_eq N2 L2 A1 A2 c1 c2 W h1 h2 hc1 hc2 (by omega)
  go_enter Try.func12, Try.ntmps12
  go_upto_region 3 with fail
  have hg0 := blk2 (heap_alloc_new w (Obj.cells #[Value.int .i64 n, Value.slice A es.length c] 25))
  generalize hW : w.alloc (Obj.cells #[Value.int .i64 n, Value.slice A es.length c] 25) = V at *
  have hbW : Below w.heap.size w V := by rw [← hW]; (repeat (first | with_reducible exact Below.refl _ _ | with_reducible assumption | with_reducible refine below_drewN0 ?_ _ | with_reducible refine Below.drew ?_ | with_reducible refine Below.alloc ?_ ?_ _ | with_reducible refine Below.setCell ?_ ?_ _ | go_size | exact Below.size (by assumption)))
  have hrV := hr.below hbW
  have hgl := hg0.2.2.2.2
  have HS := Lib.hid (fun (w' : World) (h : Below V.heap.size V w') => (⟨(h.cell (p := ⟨w.heap.size, 0, none⟩) hg0.2.2.2.2).trans hg0.1, (h.cell (p := ⟨w.heap.size, 1, none⟩) hg0.2.2.2.2).trans hg0.2.1⟩ : w'.cell? ⟨w.heap.size, 0, none⟩ = some (.int .i64 n) ∧ w'.cell? ⟨w.heap.size, 1, none⟩ = some (.slice A es.length c)))
  clear hW hr hg0
  obtain ⟨v0, v1⟩ := HS.out V (Below.refl _ _)
  go_upto_region 4 with (go_at_call 57; go_loud (refine (H1 _ (hrV.below ?_)).mono ?_; (repeat (first | with_reducible exact Below.refl _ _ | with_reducible assumption | with_reducible refine below_drewN0 ?_ _ | with_reducible refine Below.drew ?_ | with_reducible refine Below.alloc ?_ ?_ _ | with_reducible refine Below.setCell ?_ ?_ _ | go_size | exact Below.size (by assumption))); rintro e w1 ⟨A1, c1, rfl, hc1, hrd1, hb1⟩; have hcur1 : Below V.heap.size V w1 := hb1; obtain ⟨v0, v1⟩ := HS.out _ hcur1))
  (have hGa := heap_alloc_new w1 (Obj.cells #[Value.int .i64 N1, Value.slice A1 (L1).length c1] 25)
   have hVa : Below V.heap.size V (w1.alloc (Obj.cells #[Value.int .i64 N1, Value.slice A1 (L1).length c1] 25)) := by (repeat (first | with_reducible exact Below.refl _ _ | with_reducible assumption | with_reducible refine below_drewN0 ?_ _ | with_reducible refine Below.drew ?_ | with_reducible refine Below.alloc ?_ ?_ _ | with_reducible refine Below.setCell ?_ ?_ _ | go_size | exact Below.size (by assumption)))
   have hPa : Below (V).heap.size V (w1.alloc (Obj.cells #[Value.int .i64 N1, Value.slice A1 (L1).length c1] 25)) := Below.alloc hb1 hb1.size _
   have hRa := hrd1.below (w1 := w1.alloc (Obj.cells #[Value.int .i64 N1, Value.slice A1 (L1).length c1] 25)) (by (repeat (first | with_reducible exact Below.refl _ _ | with_reducible assumption | with_reducible refine below_drewN0 ?_ _ | with_reducible refine Below.drew ?_ | with_reducible refine Below.alloc ?_ ?_ _ | with_reducible refine Below.setCell ?_ ?_ _ | go_size | exact Below.size (by assumption))))
   generalize hV1 : w1.alloc (Obj.cells #[Value.int .i64 N1, Value.slice A1 (L1).length c1] 25) = V1 at *
   have HG1 := Lib.hid hGa
   have HV1 := Lib.hid hVa
   have HP1 := Lib.hid hPa
   have HR1 := Lib.hid hRa
   clear hGa hVa hPa hRa hV1 hrd1 hcur1
   obtain ⟨v0, v1⟩ := HS.out _ HV1.out)
  go_upto_region 5 with (go_at_call 58; go_loud (refine (H2 _ (hrV.below HV1.out)).mono ?_; rintro e w2 ⟨A2, c2, rfl, hc2, hrd2, hb2⟩; have hcur2 : Below V.heap.size V w2 := HV1.out.trans (hb2.mono HV1.out.size); obtain ⟨v0, v1⟩ := HS.out _ hcur2))
  (have hGa := heap_alloc_new w2 (Obj.cells #[Value.int .i64 N1, Value.slice A2 (L1).length c2] 25)
   have hVa : Below V.heap.size V (w2.alloc (Obj.cells #[Value.int .i64 N1, Value.slice A2 (L1).length c2] 25)) := by (repeat (first | with_reducible exact Below.refl _ _ | with_reducible assumption | with_reducible refine below_drewN0 ?_ _ | with_reducible refine Below.drew ?_ | with_reducible refine Below.alloc ?_ ?_ _ | with_reducible refine Below.setCell ?_ ?_ _ | go_size | exact Below.size (by assumption)))
   have hPa : Below (V1).heap.size V1 (w2.alloc (Obj.cells #[Value.int .i64 N1, Value.slice A2 (L1).length c2] 25)) := Below.alloc hb2 hb2.size _
   have hRa := hrd2.below (w1 := w2.alloc (Obj.cells #[Value.int .i64 N1, Value.slice A2 (L1).length c2] 25)) (by (repeat (first | with_reducible exact Below.refl _ _ | with_reducible assumption | with_reducible refine below_drewN0 ?_ _ | with_reducible refine Below.drew ?_ | with_reducible refine Below.alloc ?_ ?_ _ | with_reducible refine Below.setCell ?_ ?_ _ | go_size | exact Below.size (by assumption))))
   generalize hV2 : w2.alloc (Obj.cells #[Value.int .i64 N1, Value.slice A2 (L1).length c2] 25) = V2 at *
   have HG2 := Lib.hid hGa
   have HV2 := Lib.hid hVa
   have HP2 := Lib.hid hPa
   have HR2 := Lib.hid hRa
   clear hGa hVa hPa hRa hV2 hrd2 hcur2
   obtain ⟨v0, v1⟩ := HS.out _ HV2.out)
  go_upto_region 6 with (go_at_call 59; go_loud (refine (H3 _ (hrV.below HV2.out)).mono ?_; rintro e w3 ⟨A3, c3, rfl, hc3, hrd3, hb3⟩; have hcur3 : Below V.heap.size V w3 := HV2.out.trans (hb3.mono HV2.out.size); obtain ⟨v0, v1⟩ := HS.out _ hcur3))
  (have hGa := heap_alloc_new w3 (Obj.cells #[Value.int .i64 N2, Value.slice A3 (L2).length c3] 25)
   have hVa : Below V.heap.size V (w3.alloc (Obj.cells #[Value.int .i64 N2, Value.slice A3 (L2).length c3] 25)) := by (repeat (first | with_reducible exact Below.refl _ _ | with_reducible assumption | with_reducible refine below_drewN0 ?_ _ | with_reducible refine Below.drew ?_ | with_reducible refine Below.alloc ?_ ?_ _ | with_reducible refine Below.setCell ?_ ?_ _ | go_size | exact Below.size (by assumption)))
   have hPa : Below (V2).heap.size V2 (w3.alloc (Obj.cells #[Value.int .i64 N2, Value.slice A3 (L2).length c3] 25)) := Below.alloc hb3 hb3.size _
   have hRa := hrd3.below (w1 := w3.alloc (Obj.cells #[Value.int .i64 N2, Value.slice A3 (L2).length c3] 25)) (by (repeat (first | with_reducible exact Below.refl _ _ | with_reducible assumption | with_reducible refine below_drewN0 ?_ _ | with_reducible refine Below.drew ?_ | with_reducible refine Below.alloc ?_ ?_ _ | with_reducible refine Below.setCell ?_ ?_ _ | go_size | exact Below.size (by assumption))))
   generalize hV3 : w3.alloc (Obj.cells #[Value.int .i64 N2, Value.slice A3 (L2).length c3] 25) = V3 at *
   have HG3 := Lib.hid hGa
   have HV3 := Lib.hid hVa
   have HP3 := Lib.hid hPa
   have HR3 := Lib.hid hRa
   clear hGa hVa hPa hRa hV3 hrd3 hcur3
   obtain ⟨v0, v1⟩ := HS.out _ HV3.out)
  go_upto_region 7 with (go_at_call 60; go_loud (refine (H4 _ (hrV.below HV3.out)).mono ?_; rintro e w4 ⟨A4, c4, rfl, hc4, hrd4, hb4⟩; have hcur4 : Below V.heap.size V w4 := HV3.out.trans (hb4.mono HV3.out.size); obtain ⟨v0, v1⟩ := HS.out _ hcur4))
  (have hGa := heap_alloc_new w4 (Obj.cells #[Value.int .i64 N2, Value.slice A4 (L2).length c4] 25)
   have hVa : Below V.heap.size V (w4.alloc (Obj.cells #[Value.int .i64 N2, Value.slice A4 (L2).length c4] 25)) := by (repeat (first | with_reducible exact Below.refl _ _ | with_reducible assumption | with_reducible refine below_drewN0 ?_ _ | with_reducible refine Below.drew ?_ | with_reducible refine Below.alloc ?_ ?_ _ | with_reducible refine Below.setCell ?_ ?_ _ | go_size | exact Below.size (by assumption)))
   have hPa : Below (V3).heap.size V3 (w4.alloc (Obj.cells #[Value.int .i64 N2, Value.slice A4 (L2).length c4] 25)) := Below.alloc hb4 hb4.size _
   have hRa := hrd4.below (w1 := w4.alloc (Obj.cells #[Value.int .i64 N2, Value.slice A4 (L2).length c4] 25)) (by (repeat (first | with_reducible exact Below.refl _ _ | with_reducible assumption | with_reducible refine below_drewN0 ?_ _ | with_reducible refine Below.drew ?_ | with_reducible refine Below.alloc ?_ ?_ _ | with_reducible refine Below.setCell ?_ ?_ _ | go_size | exact Below.size (by assumption))))
   generalize hV4 : w4.alloc (Obj.cells #[Value.int .i64 N2, Value.slice A4 (L2).length c4] 25) = V4 at *
   have HG4 := Lib.hid hGa
   have HV4 := Lib.hid hVa
   have HP4 := Lib.hid hPa
   have HR4 := Lib.hid hRa
   clear hGa hVa hPa hRa hV4 hrd4 hcur4
   obtain ⟨v0, v1⟩ := HS.out _ HV4.out)
  clear v0 v1
  have hP34 := HP4.out
  have hP24 := HP3.out.trans (hP34.mono HP3.out.size)
  have hP14 := HP2.out.trans (hP24.mono HP2.out.size)
  have hR1 := HR1.out.below hP14
  have hR2 := HR2.out.below hP24
  have hR3 := HR3.out.below hP34
  have hR4 := HR4.out
  have hG1 := Lib.hid ((hP14.block _ (heap_lt0 HG1.out)).trans HG1.out)
  have hG2 := Lib.hid ((hP24.block _ (heap_lt0 HG2.out)).trans HG2.out)
  have hG3 := Lib.hid ((hP34.block _ (heap_lt0 HG3.out)).trans HG3.out)
  have HC := Lib.hid (fun (w' : World) (h : Below V4.heap.size V4 w') => (⟨blk2 ((h.block _ (heap_lt0 hG1.out)).trans hG1.out), blk2 ((h.block _ (heap_lt0 hG2.out)).trans hG2.out), blk2 ((h.block _ (heap_lt0 hG3.out)).trans hG3.out), blk2 ((h.block _ (heap_lt0 HG4.out)).trans HG4.out)⟩ : (_ ∧ _) ∧ (_ ∧ _) ∧ (_ ∧ _) ∧ (_ ∧ _)))
  have hend := hbW.trans (HV4.out.mono hbW.size)
  have hs4 := HV4.out.size
  clear hP14 hP24 hP34 hb1 hb2 hb3 hb4
  go_wp2_with (first
    | (go_at_call 25; go_loud ((refine (HA _).mono ?_; rintro e w5 ⟨rfl, hb5⟩; obtain ⟨⟨x0, x1, _⟩, ⟨y0, y1, _⟩, ⟨z0, z1, _⟩, ⟨u0, u1, _⟩⟩ := HC.out _ hb5)))
    | (go_at_call 29; go_loud (refine (HQ1 _ _ _ _ _ (hR1.below hb5) (hR2.below hb5) hc1 hc2).mono ?_; rintro e w6 ⟨rfl, hb6'⟩; have hb6 := hb5.trans (hb6'.mono hb5.size); clear x0 x1 y0 y1 z0 z1 u0 u1 hb5; obtain ⟨⟨x0, x1, _⟩, ⟨y0, y1, _⟩, ⟨z0, z1, _⟩, ⟨u0, u1, _⟩⟩ := HC.out _ hb6))
    | (go_at_call 29; go_loud (refine (HQ2 _ _ _ _ _ (hR3.below hb6) (hR4.below hb6) hc3 hc4).mono ?_; rintro e w7 ⟨rfl, hb7'⟩; have hb7 := hb6.trans (hb7'.mono hb6.size))))
  go_ret
  exact ⟨by simp, hend.trans (hb7.mono (by have := hbW.size; omega))⟩

end Go.Proofs.Ytglhdoibglafbaa

/- graph.Make and the reference's, of any number of vertices: one answer. -/
namespace Go.Proofs.Ytglhdoibglafbaa
open Go Go.RowKit
set_option maxRecDepth 100000
set_option linter.unusedVariables false
set_option linter.unusedSimpArgs false

theorem make_neg (n : Int) (A : Option Addr) (l c : Nat) (w : World) (hn : n < 0) :
    Calls Try.prog 27 #[.int .i64 n, .slice A l c] w fun e w' => e = .returned (.tuple #[.agg #[.int .i64 0, .slice none 0 0], .int .i64 8]) ∧ Below w.heap.size w w' := by
  go_enter Try.func27, Try.ntmps27
  go_wp2_with fail
  refine bodyPost_ret (v := .tuple #[.agg #[.int .i64 0, .slice none 0 0], .int .i64 8]) (by simp [results, Try.results27, go_sem]) rfl ?_
  exact ⟨rfl, by go_grown⟩
theorem rmake_neg (n : Int) (A : Option Addr) (l c : Nat) (w : World) (hn : n < 0) :
    Calls Try.prog 28 #[.int .i64 n, .slice A l c] w fun e w' => e = .returned (.tuple #[.agg #[.int .i64 0, .slice none 0 0], .int .i64 8]) ∧ Below w.heap.size w w' := by
  go_enter Try.func28, Try.ntmps28
  go_wp2_with fail
  refine bodyPost_ret (v := .tuple #[.agg #[.int .i64 0, .slice none 0 0], .int .i64 8]) (by simp [results, Try.results28, go_sem]) rfl ?_
  exact ⟨rfl, by go_grown⟩
theorem rmake_limit (n : Int) (A : Option Addr) (l c : Nat) (w : World) (hn : 4096 < n) :
    Calls Try.prog 28 #[.int .i64 n, .slice A l c] w fun e w' => e = .returned (.tuple #[.agg #[.int .i64 0, .slice none 0 0], .int .i64 8]) ∧ Below w.heap.size w w' := by
  go_enter Try.func28, Try.ntmps28
  go_wp2_with fail
  refine bodyPost_ret (v := .tuple #[.agg #[.int .i64 0, .slice none 0 0], .int .i64 8]) (by simp [results, Try.results28, go_sem]) rfl ?_
  exact ⟨rfl, by go_grown⟩

def mkErr (n : Int) (l : List (Int × Int)) : Int := if 0 ≤ n ∧ n ≤ 4096 then (makeF n [] l).1 else 8
def mkL (n : Int) (l : List (Int × Int)) : List (Int × Int) := (makeF n [] l).2

theorem ch_bad {n : Int} {l : List (Int × Int)} (hb : ¬ (0 ≤ n ∧ n ≤ 4096)) {w w' : World} {e : Ending} (h : e = .returned (.tuple #[.agg #[.int .i64 0, .slice none 0 0], .int .i64 8]) ∧ Below w.heap.size w w') : ChPost (chN (mkErr n l) n) (mkErr n l) (chL (mkErr n l) (mkL n l)) w e w' := by
  obtain ⟨rfl, hb'⟩ := h
  have h8 : mkErr n l = 8 := if_neg hb
  rw [h8]
  exact ⟨none, 0, rfl, Nat.le_refl _, .inl rfl, hb'⟩

theorem gmk_any (n : Int) (l : List (Int × Int)) (A : Option Addr) (c : Nat) (w : World) (hr : Reads w A (pcells l)) (hc : l.length ≤ c) (hl : l.length ≤ 60000) :
    Calls Try.prog 27 #[.int .i64 n, .slice A l.length c] w (ChPost (chN (mkErr n l) n) (mkErr n l) (chL (mkErr n l) (mkL n l)) w) := by
  by_cases hn : 0 ≤ n ∧ n ≤ 4096
  · have hb := makeK_both (n := n) l [] (right_none hn.1 hn.2) (by simpa using hl)
    have e0 : sortL ([] : List PE) = [] := rfl
    rw [e0] at hb
    have hE : mkErr n l = (makeF n [] l).1 := if_pos hn
    refine (make_any n l A c w hr hc hn.1 hn.2 hl).mono ?_
    rintro e w' ⟨N', A', l', c', err, rfl, hb', he, h⟩
    rw [hE, hb.1, ← he]
    rcases h with ⟨h0, rfl, rfl, rfl, rfl⟩ | ⟨rfl, rfl, rfl, hc', d', hp, hs, ho⟩
    · rw [chN, chL, if_neg h0, if_neg h0]
      exact ⟨none, 0, rfl, Nat.le_refl _, .inl rfl, hb'⟩
    · rw [chN, chL, if_pos rfl, if_pos rfl, mkL, hb.2 he.symm]
      have hd : d'.toList = sortL (makeK N' [] l).2 := sorted_is _ d' (by rw [List.size_toArray]; exact hp) (by rw [List.size_toArray]; exact hs)
      rw [hd] at ho
      exact ⟨A', c', by rw [sortL_length], by rw [sortL_length]; exact hc', (own_reads1 ho).1, hb'⟩
  · by_cases h1 : n < 0
    · exact (make_neg n A l.length c w h1).mono fun e w' h => ch_bad hn h
    · exact (make_limit n A l.length c w (by omega)).mono fun e w' h => ch_bad hn h

theorem rmk_any (n : Int) (l : List (Int × Int)) (A : Option Addr) (c : Nat) (w : World) (hr : Reads w A (pcells l)) (hc : l.length ≤ c) (hl : l.length ≤ 60000) :
    Calls Try.prog 28 #[.int .i64 n, .slice A l.length c] w (ChPost (chN (mkErr n l) n) (mkErr n l) (chL (mkErr n l) (mkL n l)) w) := by
  by_cases hn : 0 ≤ n ∧ n ≤ 4096
  · have hE : mkErr n l = (makeF n [] l).1 := if_pos hn
    refine (rmake_any n l A c w hr hc hn.1 hn.2 hl).mono ?_
    rintro e w' ⟨N', A', l', c', err, rfl, hb', he, h⟩
    rw [hE, ← he]
    rcases h with ⟨h0, rfl, rfl, rfl, rfl⟩ | ⟨rfl, rfl, rfl, hc', ho⟩
    · rw [chN, chL, if_neg h0, if_neg h0]
      exact ⟨none, 0, rfl, Nat.le_refl _, .inl rfl, hb'⟩
    · rw [chN, chL, if_pos rfl, if_pos rfl]
      exact ⟨A', c', rfl, hc', (own_reads1 ho).1, hb'⟩
  · by_cases h1 : n < 0
    · exact (rmake_neg n A l.length c w h1).mono fun e w' h => ch_bad hn h
    · exact (rmake_limit n A l.length c w (by omega)).mono fun e w' h => ch_bad hn h
theorem mkL_length (n : Int) (l : List (Int × Int)) : (mkL n l).length ≤ l.length := by unfold mkL; simpa using makeF_length (n := n) l []
end Go.Proofs.Ytglhdoibglafbaa
