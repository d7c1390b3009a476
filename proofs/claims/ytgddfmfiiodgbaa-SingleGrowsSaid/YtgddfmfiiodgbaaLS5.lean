/- SingleGrows, walked. -/
import Derived.Test.YtgddfmfiiodgbaaU38
import Derived.Test.YtgddfmfiiodgbaaU31
namespace Go.Proofs.Ytgddfmfiiodgbaa
open Go Go.RowKit
set_option maxRecDepth 100000
set_option linter.unusedVariables false
set_option linter.unusedSimpArgs false

theorem nodup_lt_len {p : List Nat} {n : Nat} (hn : p.Nodup) (h : ∀ x ∈ p, x < n) : p.length ≤ n := by
  have := len_le_rel (fun a b : Nat => a = b) (fun a a' b h h' => h.trans h'.symm) p (List.range n) hn fun a ha => ⟨a, by simpa using h a ha, rfl⟩
  simpa using this

set_option maxHeartbeats 4000000 in
theorem sgrows_any (n0 : Int) (ends picks : List Int) (Ae Ap : Option Addr) (ce cp : Nat) (w : World) (hn1 : -9223372036854775808 ≤ n0) (hn2 : n0 ≤ 9223372036854775807)
    (hre : Reads w Ae (icells ends)) (hce : ends.length ≤ ce) (hme : ends.length ≤ 4611686018427387903) (hrp : Reads w Ap (icells picks)) (hcp : picks.length ≤ cp) (hmp : picks.length ≤ 4611686018427387903) :
    Calls Try.prog 9 #[.int .i64 n0, .slice Ae ends.length ce, .slice Ap picks.length cp] w fun e w' => e = .returned (.bool true) ∧ Below w.heap.size w w' := by
  have HSM := small_any n0 30 50 ends Ae ce w (by omega) (by omega) (by omega) (by omega) hn1 hn2 hre hce hme
  have HRK := Lib.hid hrp
  clear hn1 hn2 hre hrp
  go_enter Try.func9, Try.ntmps9
  go_upto_region 2 with (go_at_call 31; (refine HSM.mono ?_; rintro e w1 ⟨n1, es, A, c, rfl, hP, hn, hes, hc, hrd, hb1⟩))
  obtain ⟨n, rfl⟩ : ∃ n : Nat, n1 = (n : Int) := ⟨n1.toNat, by have := hP.n0; omega⟩
  have hX1 := Box2.new hb1 (.int .i64 (n : Int)) (.slice A es.length c) 25
  have hrd1 := hrd.below ((Below.refl w1.heap.size w1).alloc (Nat.le_refl _) (.cells #[Value.int IntKind.i64 (n : Int), Value.slice A es.length c] 25))
  generalize w1.alloc (.cells #[Value.int IntKind.i64 (n : Int), Value.slice A es.length c] 25) = w2 at hX1 hrd1 ⊢
  obtain ⟨b7, hb7⟩ : ∃ b, b = w1.heap.size := ⟨_, rfl⟩
  rw [← hb7] at hX1 ⊢
  have HMT := mates_any hP A Ap c cp picks w2 hrd1 hc (HRK.out.below hX1.below) hcp hmp
  have c0 := hX1.c0
  have c1 := hX1.c1
  have HP := Lib.hid hP
  clear hrd hb1 hP HSM hb7 w1
  go_upto_region 4 with (go_at_call 37; (refine HMT.mono ?_; rintro e w3 ⟨M0, g0, rfl, hM0, hrow0, _, hb3⟩))
  have hG0 : GMW w n es A c b7 (some ⟨g0, 0, none⟩) M0 w3 := ⟨hX1.go hb3, hrd1.below hb3, hrow0.reads⟩
  have HG0 := Lib.hid hG0
  have HM0 := Lib.hid hM0
  have hf0 : (freeL n M0).length ≤ n := freeL_le n M0
  clear hG0 hX1 hrd1 hb3 hrow0 hM0 c0 c1 HMT
  go_loopw [8, 9] (fun v8 v9 wr => ∃ (k : Nat) (M : Nat → Option Nat) (mA : Option Addr) (mc : Nat), v8 = .slice mA n mc ∧ v9 = .int .i64 k ∧ n ≤ mc ∧ (freeL n M).length + 2 * k ≤ n ∧ Hid (IsMat n (adjE es) M) ∧ Hid (GMW w n es A c b7 mA M wr)) (fun _ v9 _ => n - (intOf v9).toNat)
  case atStart => exact ⟨0, M0, _, n, rfl, rfl, Nat.le_refl _, by omega, HM0, HG0⟩
  case round =>
    clear HG0 HM0 hf0
    obtain ⟨k, M, mA, mc, rfl, rfl, hmc, hfk, hM, hG⟩ := hrel
    have c0 := hG.out.box.c0
    have c1 := hG.out.box.c1
    have i1 : (k : Int) ≤ (n : Int) := by omega
    have HPA := path_yes n es A mA c mc M wr hG.out.rd hc ((right_iff _ _).2 HP.out) hG.out.rm hM.out hmc
    go_upto_region 7 with (go_at_call 39; (refine HPA.mono ?_; rintro e w4 (⟨p, g, cg, rfl, haug, hpl, how, hb4⟩ | ⟨B, S, D, rfl, hFI, hCl, hRow, _, hb4⟩)))
    · have hG4 := hG.out.go hb4
      have hev := AugW.evenLen hM.out haug
      have hpn := nodup_lt_len hev.2 hpl
      have hp2 : 2 ≤ p.length := (haug.augI hM.out).len
      have hrp4 := own_reads1 how
      rw [natI_len] at hrp4 ⊢
      have HFL := flip_yes HP.out hM.out haug hpl A mA (some ⟨g, 0, none⟩) c mc cg w4 hG4.rd hc hG4.rm hrp4.1 hrp4.2.1 (by omega)
      have ht := haug.turn (right_gr HP.out) hM.out
      have c0' := hG4.box.c0
      have c1' := hG4.box.c1
      have e1 : ((p.length : Int) == 0) = false := by simp; intro h; rw [h] at hp2; simp at hp2
      have e2 : ¬ (p.length : Int) = 0 := by omega
      have HG4 := Lib.hid hG4
      have HT := Lib.hid ht
      clear hG4 hG haug hpl how hb4 hrp4 ht hev c0 c1 HPA
      go_wp2_with (go_at_call 48; (refine HFL.mono ?_; rintro e w5 ⟨g2, c2, rfl, hc2, ho5⟩))
      exact ⟨⟨k + 1, _, _, _, rfl, by go_num, hc2, by have := HT.out.2; omega, HT.out.1, ⟨HG4.out.box.go ho5.2, HG4.out.rd.below ho5.2, (own_reads1 ho5.1).1⟩⟩, by simp [intOf]; omega⟩
    · have hG4 := hG.out.go hb4
      have hno := hFI.closed_none (right_gr HP.out) hM.out hCl
      have HLA := largest_yes n es A c w4 hG4.rd hc ((right_iff _ _).2 HP.out)
      have HMS := fun (W : World) (h : Below w4.heap.size w4 W) => msize_any hM.out mA mc W (hG4.rm.below h) (by omega)
      have HB4 := Lib.hid hG4.box.below
      have c0' := hG4.box.c0
      have c1' := hG4.box.c1
      have hx := hG4.box
      have e0 : Hid (∀ W, Below w4.heap.size w4 W → W.cell? ⟨b7, 0, none⟩ = some (.int .i64 (n : Int))) := fun W h => (hx.go h).c0
      clear hG hFI hCl hRow hb4 c0 c1 HPA hG4 hx
      go_upto_region 11 with (go_at_call 32; (refine HLA.mono ?_; rintro e w5 ⟨M1, mA1, g1, r, kk, rfl, hM1, hno1, hRO, _, _, _, _, hb5⟩))
      have hb6 : Below w4.heap.size w4 (w5.alloc (Obj.cells #[Value.int IntKind.i64 (r : Int), Value.int IntKind.i64 (kk : Int)] 28)) := hb5.alloc hb5.size _
      have hr6 := hRO.reads.below ((Below.refl w5.heap.size w5).alloc (Nat.le_refl _) (Obj.cells #[Value.int IntKind.i64 (r : Int), Value.int IntKind.i64 (kk : Int)] 28))
      have hse : sizeM n M1 = sizeM n M := Nat.le_antisymm (size_max (right_gr HP.out) hM.out hM1 hno) (size_max (right_gr HP.out) hM1 hM.out hno1)
      generalize w5.alloc (Obj.cells #[Value.int IntKind.i64 (r : Int), Value.int IntKind.i64 (kk : Int)] 28) = w6 at hb6 hr6 ⊢
      have HM1 := fun (W : World) (h : Below w6.heap.size w6 W) => msize_any hM1 mA1 n W (hr6.below h) (by omega)
      rw [hse] at HM1
      have HB6 := Lib.hid hb6
      clear hb5 hr6 hRO hM1 hno1 hno hse c0' c1' hb6
      go_wp2_with (first
        | (go_at_call 33; (refine (awake11 w6).mono ?_; rintro e w7 ⟨rfl, hb7⟩; have c7 := e0.out w7 (below_on HB6.out hb7)))
        | (go_at_call 35; (with_reducible refine (HM1 w7 hb7).mono ?_); rintro e w8 ⟨rfl, hb8⟩)
        | (go_at_call 35; (with_reducible refine (HMS w8 (below_on (below_on HB6.out hb7) hb8)).mono ?_); rintro e w9 ⟨rfl, hb9⟩))

      go_ret
      exact ⟨rfl, HB4.out.trans ((below_on (below_on (below_on HB6.out hb7) hb8) hb9).mono HB4.out.size)⟩
end Go.Proofs.Ytgddfmfiiodgbaa
