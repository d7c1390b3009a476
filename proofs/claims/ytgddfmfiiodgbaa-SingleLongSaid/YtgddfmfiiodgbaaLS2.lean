/- SingleLong, walked. -/
import Derived.Test.YtgddfmfiiodgbaaU33
import Derived.Test.YtgddfmfiiodgbaaU32
import Derived.Test.YtgddfmfiiodgbaaU34
namespace Go.Proofs.Ytgddfmfiiodgbaa
open Go Go.RowKit
set_option maxRecDepth 100000
set_option linter.unusedVariables false
set_option linter.unusedSimpArgs false

set_option maxHeartbeats 4000000 in
theorem slong_any (n0 s0 k0 : Int) (w : World) (hn1 : -9223372036854775808 ≤ n0) (hn2 : n0 ≤ 9223372036854775807) (hs1 : -9223372036854775808 ≤ s0) (hs2 : s0 ≤ 9223372036854775807) (hk1 : -9223372036854775808 ≤ k0) (hk2 : k0 ≤ 9223372036854775807) :
    Calls Try.prog 6 #[.int .i64 n0, .int .i64 s0, .int .i64 k0] w fun e w' => e = .returned (.bool true) ∧ Below w.heap.size w w' := by
  have HLO := long_any n0 s0 k0 w hn1 hn2 hs1 hs2 hk1 hk2
  clear hn1 hn2 hs1 hs2 hk1 hk2
  go_enter Try.func6, Try.ntmps6
  go_upto_region 2 with (go_at_call 45; (refine HLO.mono ?_; rintro e w1 ⟨n, es, A, c, rfl, hP, h3, h302, hes, hcy, hc, hrd, hb1⟩))
  have hR := (right_iff _ _).2 hP
  have HLA := fun (W : World) (h : Reads W A (pcells es)) => largest_yes n es A c W h hc hR
  have hX1 := Box2.new hb1 (.int .i64 (n : Int)) (.slice A es.length c) 25
  have hrd1 := hrd.below ((Below.refl w1.heap.size w1).alloc (Nat.le_refl _) (.cells #[Value.int IntKind.i64 (n : Int), Value.slice A es.length c] 25))
  generalize w1.alloc (.cells #[Value.int IntKind.i64 (n : Int), Value.slice A es.length c] 25) = w2 at hX1 hrd1 ⊢
  have c0 := hX1.c0
  have c1 := hX1.c1
  have HP := Lib.hid hP
  have HCY := Lib.hid hcy
  clear hrd hb1 hP hcy hR HLO
  go_upto_region 3 with (go_at_call 32; (refine (HLA w2 hrd1).mono ?_; rintro e w3 ⟨M, mA, g, r, k, rfl, hM, hno, hRO, _, _, hr, hk, hb3⟩))
  have hG3 : GMW w n es A c w1.heap.size mA M w3 := ⟨hX1.go hb3, hrd1.below hb3, hRO.reads⟩
  have hE3 := Box2.new hG3.box.below (.int .i64 (r : Int)) (.int .i64 (k : Int)) 28
  have hG4 := hG3.go ((Below.refl w3.heap.size w3).alloc (Nat.le_refl _) (.cells #[Value.int IntKind.i64 (r : Int), Value.int IntKind.i64 (k : Int)] 28))
  generalize w3.alloc (.cells #[Value.int IntKind.i64 (r : Int), Value.int IntKind.i64 (k : Int)] 28) = w4 at hE3 hG4 ⊢
  obtain ⟨b7, hb7⟩ : ∃ b, b = w1.heap.size := ⟨_, rfl⟩
  obtain ⟨b9, hb9⟩ : ∃ b, b = w3.heap.size := ⟨_, rfl⟩
  rw [← hb7] at hG4 ⊢
  rw [← hb9] at hE3 ⊢
  have hsz := cycle_size (right_gr HP.out) HCY.out hM hno
  have HMR := fun (W : World) (h : GMW w n es A c b7 mA M W) => rmright_mat A mA c n W h.rd hc HP.out hM h.rm
  have HMS := fun (W : World) (h : GMW w n es A c b7 mA M W) => msize_any hM mA n W h.rm (by omega)
  have HPA := fun (W : World) (h : GMW w n es A c b7 mA M W) => path_yes n es A mA c n M W h.rd hc ((right_iff _ _).2 HP.out) h.rm hM (Nat.le_refl _)
  have HNO := Lib.hid hno
  rw [hsz] at HMS
  clear hG3 hX1 hrd1 hRO hb3 hb7 hb9 hsz hno c0 c1 HLA
  have j1 : ¬ ((r : Int) < 0) := by omega
  have j2 : ¬ ((n : Int) + 1 < (r : Int)) := by omega
  have j3 : ¬ (8 * (es.length : Int) < (k : Int)) := by omega
  have j4 : IntKind.i64.wrap ((n : Int) + 1) = (n : Int) + 1 := by rw [IntKind.wrap_i64]; omega
  have j5 : IntKind.i64.wrap (8 * (es.length : Int)) = 8 * (es.length : Int) := by rw [IntKind.wrap_i64]; omega
  go_upto_region 5 with (first
    | (go_at_call 33; ((refine (awake11 w4).mono ?_); rintro e w5 ⟨rfl, hb5⟩; have hG5 := hG4.go hb5; have hE5 := hE3.go hb5; have d0 := hG5.box.c0; have d1 := hG5.box.c1))
    | (go_at_call 34; (refine (HMR _ hG5).mono ?_; rintro e w6 ⟨rfl, hb6⟩; have hG6 := hG5.go hb6; have hE6 := hE5.go hb6; have e0 := hG6.box.c0; have e1 := hG6.box.c1; have f0 := hE6.c0; have f1 := hE6.c1)))
  have HPB : Calls Try.prog 39 #[.agg #[.int .i64 (n : Int), .slice A es.length c], .slice mA n n] w6 (fun e w' => ∃ B, e = .returned (.tuple #[.slice none 0 0, .slice (some ⟨B, 0, none⟩) n n, .int .i64 0]) ∧ Below w6.heap.size w6 w') := (HPA w6 hG6).mono (by
    rintro e w' (⟨p, g, cg, rfl, haug, _⟩ | ⟨B, S, D, rfl, _, _, _, _, hb⟩)
    · exact absurd haug (HNO.out p)
    · exact ⟨B, rfl, hb⟩)
  clear hG4 hE3 hG5 hE5 d0 d1 f0 f1 hb5 hb6 HPA HMR hE6
  go_upto_region 6 with (go_at_call 39; (refine HPB.mono ?_; rintro e w7 ⟨B, rfl, hb7⟩))
  have hG7 := hG6.go hb7
  have d0 := hG7.box.c0
  have q1 : ((n : Int) == (n : Int)) = true := by simp
  have q2 : (((n / 2 : Nat) : Int)) = (n : Int).tdiv 2 := by rw [Int.tdiv_eq_ediv_of_nonneg (by omega)]; omega
  have q3 : IntKind.i64.wrap ((n : Int).tdiv 2) = (((n / 2 : Nat) : Int)) := by rw [← q2, IntKind.wrap_i64]; omega
  clear hG6 hb7 e0 e1
  go_region_held3 (fun w' => w'.cell? ⟨b7, 0, none⟩ = some (.int .i64 (n : Int))) (first | exact d0 | exact dd0 | (simp [go_sem, *]; done))
    (first | (go_at_call 35; refine (HMS _ (hG7.go (below_drewN0 (Below.refl _ _) _))).mono ?_; rintro e w8 ⟨rfl, hb8⟩; have hG8 := (hG7.go (below_drewN0 (Below.refl _ _) _)).go hb8; have dd0 := hG8.box.c0))
  have q5 : ((n : Int) / 2 == IntKind.i64.wrap ((n : Int) / 2)) = true := by rw [IntKind.wrap_i64]; simp; omega
  rw [q5]
  go_wp2_with fail
  go_ret
  exact ⟨rfl, hG8.box.below⟩
end Go.Proofs.Ytgddfmfiiodgbaa
