/- SingleLabels, walked. -/
import Derived.Test.YtgddfmfiiodgbaaU33
import Derived.Test.YtgddfmfiiodgbaaU32
import Derived.Test.YtgddfmfiiodgbaaU31
namespace Go.Proofs.Ytgddfmfiiodgbaa
open Go Go.RowKit
set_option maxRecDepth 100000
set_option linter.unusedVariables false
set_option linter.unusedSimpArgs false

/-- What SingleLabels holds in memory. -/
structure LBW (w : World) (n : Nat) (es : List (Int × Int)) (A : Option Addr) (c b : Nat) (mA : Option Addr) (M : Nat → Option Nat) (B : Nat) (L : Nat → Nat) (wc : World) : Prop where
  g : GMW w n es A c b mA M wc
  row : RowI wc 3 B (natL n L)
theorem LBW.go {w : World} {n : Nat} {es : List (Int × Int)} {A : Option Addr} {c b : Nat} {mA : Option Addr} {M : Nat → Option Nat} {B : Nat} {L : Nat → Nat} {wc wd : World} (h : LBW w n es A c b mA M B L wc) (hb : Below wc.heap.size wc wd) : LBW w n es A c b mA M B L wd := ⟨h.g.go hb, h.row.below hb h.row.lt⟩

set_option maxHeartbeats 4000000 in
theorem slabels_any (n0 s0 k0 : Int) (ends : List Int) (Ae : Option Addr) (ce : Nat) (w : World) (hn1 : -9223372036854775808 ≤ n0) (hn2 : n0 ≤ 9223372036854775807) (hs1 : -9223372036854775808 ≤ s0) (hs2 : s0 ≤ 9223372036854775807) (hk1 : -9223372036854775808 ≤ k0) (hk2 : k0 ≤ 9223372036854775807)
    (hre : Reads w Ae (icells ends)) (hce : ends.length ≤ ce) (hme : ends.length ≤ 4611686018427387903) :
    Calls Try.prog 7 #[.int .i64 n0, .int .i64 s0, .int .i64 k0, .slice Ae ends.length ce] w fun e w' => e = .returned (.bool true) ∧ Below w.heap.size w w' := by
  have HLO := long_any n0 s0 k0 w hn1 hn2 hs1 hs2 hk1 hk2
  have HSM := fun W hR => small_own n0 40 60 ends Ae ce W (by omega) (by omega) (by omega) (by omega) hn1 hn2 hR hce hme
  have HRE := Lib.hid hre
  clear hn1 hn2 hs1 hs2 hk1 hk2 hre
  go_enter Try.func7, Try.ntmps7
  go_upto_if 27 with (go_at_call 45; (refine HLO.mono ?_; rintro e w1 ⟨n1, es1, A1, c1, rfl, hP, h3, h302, hes, hcy, hc, hrd, hb1⟩))
  have hX1 := Box2.new hb1 (.int .i64 (n1 : Int)) (.slice A1 es1.length c1) 25
  have hrd1 := hrd.below ((Below.refl w1.heap.size w1).alloc (Nat.le_refl _) (.cells #[Value.int IntKind.i64 (n1 : Int), Value.slice A1 es1.length c1] 25))
  have hsb : w.heap.size ≤ w1.heap.size := hb1.size
  have hsb2 : w1.heap.size < (w1.alloc (.cells #[Value.int IntKind.i64 (n1 : Int), Value.slice A1 es1.length c1] 25)).heap.size := by rw [World.size_alloc]; omega
  generalize w1.alloc (.cells #[Value.int IntKind.i64 (n1 : Int), Value.slice A1 es1.length c1] 25) = w2 at hX1 hrd1 hsb2 ⊢
  obtain ⟨b7, hb7⟩ : ∃ b, b = w1.heap.size := ⟨_, rfl⟩
  rw [← hb7] at hX1 hsb hsb2 ⊢
  have HP := Lib.hid hP
  clear hrd hb1 hP hcy hb7 w1 HLO h3
  go_cut [9] (fun v wc => ∃ (n : Nat) (es : List (Int × Int)) (A : Option Addr) (c : Nat), v = .pointer (some ⟨b7, 0, none⟩) ∧ n ≤ 302 ∧ es.length ≤ 362 ∧ es.length ≤ c ∧ Hid (RightP n es) ∧ Hid (Box2 w b7 (.int .i64 (n : Int)) (.slice A es.length c) 25 wc) ∧ Hid (Reads wc A (pcells es)))
  case first =>
    by_cases hl : 2 < ends.length
    · have hl1 : (2 : Int) < (ends.length : Int) := by omega
      have HSM2 := HSM w2 (HRE.out.below hX1.below)
      have z0 := hX1.f0 0
      have z1 := hX1.f0 1
      clear hrd1
      go_wp2_with (go_at_call 31; (refine HSM2.mono ?_; rintro e w3 ⟨n2, es2, A2, c2, rfl, hP2, hn2, he2, hc2, hrd2, hb3⟩; have hX3 := hX1.go hb3; have y0 := hX3.f0 0; have y1 := hX3.f0 1; have c0 := hX3.c0; have c1 := hX3.c1))
      go_meet
      obtain ⟨n, rfl⟩ : ∃ n : Nat, n2 = (n : Int) := ⟨n2.toNat, by have := hP2.n0; omega⟩
      refine ⟨n, es2, A2, c2, rfl, by omega, by omega, hc2, hP2, hX3.set hsb _ _, ?_⟩
      exact (own_reads1 (own_set (a := ⟨b7, 1, none⟩) (own_set (a := ⟨b7, 0, none⟩) hrd2 hsb2 _) hsb2 _)).1
    · have hl1 : ¬ (2 : Int) < (ends.length : Int) := by omega
      go_wp2_with fail
      go_meet
      exact ⟨n1, es1, A1, c1, rfl, h302, hes, hc, HP, hX1, hrd1⟩
  case rest =>
    clear hX1 hrd1 HP HSM HRE
    obtain ⟨n, es, A, c, rfl, h302, hes, hc, HP, hX, hrd⟩ := hcut
    have hR := (right_iff _ _).2 HP.out
    have HLA := largest_yes n es A c wc hrd.out hc hR
    have c0 := hX.out.c0
    have c1 := hX.out.c1
    clear hR
    go_upto_region 5 with (go_at_call 32; (refine HLA.mono ?_; rintro e w3 ⟨M, mA, g, r, k, rfl, hM, hno, hRO, _, _, hr, hk, hb3⟩))
    have hG3 : GMW w n es A c b7 mA M w3 := ⟨hX.out.go hb3, hrd.out.below hb3, hRO.reads⟩
    have hG4 := hG3.go ((Below.refl w3.heap.size w3).alloc (Nat.le_refl _) (.cells #[Value.int IntKind.i64 (r : Int), Value.int IntKind.i64 (k : Int)] 28))
    generalize w3.alloc (.cells #[Value.int IntKind.i64 (r : Int), Value.int IntKind.i64 (k : Int)] 28) = w4 at hG4 ⊢
    have HMR := fun (W : World) (h : GMW w n es A c b7 mA M W) => rmright_mat A mA c n W h.rd hc HP.out hM h.rm
    have HPA := fun (W : World) (h : GMW w n es A c b7 mA M W) => (show Calls Try.prog 39 #[.agg #[.int .i64 (n : Int), .slice A es.length c], .slice mA n n] W (fun e w' => ∃ B L, e = .returned (.tuple #[.slice none 0 0, .slice (some ⟨B, 0, none⟩) n n, .int .i64 0]) ∧ Hid (LabP n (adjE es) M L) ∧ LBW w n es A c b7 mA M B L w') from (path_yes n es A mA c n M W h.rd hc ((right_iff _ _).2 HP.out) h.rm hM (Nat.le_refl _)).mono (by
      rintro e w' (⟨p, g, cg, rfl, haug, _⟩ | ⟨B, S, D, rfl, hFI, hCl, hRow, _, hb⟩)
      · exact absurd haug (hno p)
      · exact ⟨B, labF S, rfl, lab_labF (right_gr HP.out) hM hFI hCl, h.go hb, hRow⟩))
    have HM := Lib.hid hM
    clear hG3 hX hrd hRO hb3 hno c0 c1 HLA hM
    have c0 := hG4.box.c0
    have c1 := hG4.box.c1
    go_upto_region 6 with (go_at_call 39; (refine (HPA _ hG4).mono ?_; rintro e w5 ⟨B, L, rfl, hL, hG5⟩))
    clear hG4 c0 c1 HPA
    go_upto_region 8 with (first
      | (go_at_call 33; ((refine (awake11 w5).mono ?_); rintro e w6 ⟨rfl, hb6⟩; have hG6 := hG5.go hb6; have d0 := hG6.g.box.c0; have d1 := hG6.g.box.c1))
      | (go_at_call 34; (refine (HMR _ hG6.g).mono ?_; rintro e w7 ⟨rfl, hb7⟩; have hG7 := hG6.go hb7)))
    have HG := Lib.hid hG7
    clear hG5 hG6 hG7 d0 d1 hb6 hb7 HMR hr hk
    have hle := hL.out.le
    have HLE := Lib.hid hle
    clear hle
    go_wp2_with fail
    go_loopw [16] (fun i wr => ∃ (v : Nat), i = .int .i64 v ∧ v ≤ n ∧ Hid (LBW w n es A c b7 mA M B L wr)) (fun i _ => n - (intOf i).toNat)
    case atStart => exact ⟨0, rfl, Nat.zero_le _, HG⟩
    case round =>
      clear HG
      obtain ⟨v, rfl, hv, hG⟩ := hrel
      have c0 := hG.out.g.box.c0
      have c1 := hG.out.g.box.c1
      by_cases hlt : v < n
      · have i1 : (v : Int) < (n : Int) := by omega
        have i2 : (0 : Int) ≤ (v : Int) := by omega
        obtain ⟨mb, mo, hmA, _, cm⟩ := hG.out.g.rm.int v _ (mateL_get M hlt)
        have cl := hG.out.row.cell (natL_get (f := L) hlt)
        rw [hmA]
        have HMA := Lib.hid hmA
        clear hmA
        cases hm : M v with
        | none =>
          rw [hm] at cm
          have cm1 : wr.cell? ⟨mb, mo + v, none⟩ = some (.int .i64 (-1)) := cm
          have h1 := hL.out.free v hlt hm
          rw [h1] at cl
          have cl1 : wr.cell? ⟨B, v, none⟩ = some (.int .i64 1) := cl
          clear cm cl hm h1
          go_wp2_with fail
          exact ⟨⟨v + 1, by go_num, by omega, by rw [← HMA.out]; exact hG⟩, by simp [intOf]; omega⟩
        | some x =>
          rw [hm] at cm
          have cm1 : wr.cell? ⟨mb, mo + v, none⟩ = some (.int .i64 (x : Int)) := cm
          have hx := HM.out.lt (HM.out.symm hm)
          have cx := hG.out.row.cell (natL_get (f := L) hx)
          have x1 : ¬ ((x : Int) < 0) := by omega
          have x2 : decide ((x : Int) < 0) = false := decide_eq_false x1
          have x3 : (0 : Int) ≤ (x : Int) := by omega
          have x4 : decide ((0 : Int) ≤ (x : Int)) = true := decide_eq_true x3
          have x5 : (x : Int) < (n : Int) := by omega
          have h3 : (L v = 0 ∧ L x = 0) ∨ L v = 1 ∨ (L v = 2 ∧ L x = 1) := by
            have := HLE.out v hlt
            have h4 := hL.out.out v x hlt
            have h5 := hL.out.odd v hlt
            rcases (show L v = 0 ∨ L v = 1 ∨ L v = 2 by omega) with h | h | h
            · exact .inl ⟨h, h4 h hm⟩
            · exact .inr (.inl h)
            · obtain ⟨y, e1, e2⟩ := h5 h
              rw [hm] at e1; cases e1
              exact .inr (.inr ⟨h, e2⟩)
          clear cm
          rcases h3 with ⟨g1, g2⟩ | g1 | ⟨g1, g2⟩
          · rw [g1] at cl
            rw [g2] at cx
            have cl1 : wr.cell? ⟨B, v, none⟩ = some (.int .i64 0) := cl
            have cx1 : wr.cell? ⟨B, x, none⟩ = some (.int .i64 0) := cx
            clear cl cx g1 g2 hm hx
            go_wp2_with fail
            exact ⟨⟨v + 1, by go_num, by omega, by rw [← HMA.out]; exact hG⟩, by simp [intOf]; omega⟩
          · rw [g1] at cl
            have cl1 : wr.cell? ⟨B, v, none⟩ = some (.int .i64 1) := cl
            clear cl cx g1 hm hx
            go_wp2_with fail
            exact ⟨⟨v + 1, by go_num, by omega, by rw [← HMA.out]; exact hG⟩, by simp [intOf]; omega⟩
          · rw [g1] at cl
            rw [g2] at cx
            have cl1 : wr.cell? ⟨B, v, none⟩ = some (.int .i64 2) := cl
            have cx1 : wr.cell? ⟨B, x, none⟩ = some (.int .i64 1) := cx
            clear cl cx g1 g2 hm hx
            go_wp2_with fail
            exact ⟨⟨v + 1, by go_num, by omega, by rw [← HMA.out]; exact hG⟩, by simp [intOf]; omega⟩
      · have i1 : ¬ (v : Int) < (n : Int) := by omega
        clear hv
        go_wp2_with fail
        go_loopw [18] (fun i wr => ∃ (k : Nat), i = .int .i64 k ∧ k ≤ es.length ∧ Hid (LBW w n es A c b7 mA M B L wr)) (fun i _ => es.length - (intOf i).toNat)
        case atStart => exact ⟨0, rfl, Nat.zero_le _, hG⟩
        case round =>
          clear hG c0 c1
          obtain ⟨k, rfl, hk, hG⟩ := hrel
          have c0 := hG.out.g.box.c0
          have c1 := hG.out.g.box.c1
          by_cases hlt : k < es.length
          · obtain ⟨⟨x, y⟩, hxy⟩ : ∃ e, es[k]? = some e := ⟨es[k], by simp [hlt]⟩
            have hmem := List.mem_of_getElem? hxy
            have hok := HP.out.ok _ hmem
            simp only at hok
            obtain ⟨a, rfl⟩ : ∃ a' : Nat, x = (a' : Int) := ⟨x.toNat, by omega⟩
            obtain ⟨b, rfl⟩ : ∃ b' : Nat, y = (b' : Int) := ⟨y.toNat, by omega⟩
            obtain ⟨eb, eo, hA, _, cx, cy⟩ := hG.out.g.rd.pair' k _ hxy
            simp only at cx cy
            rw [hA] at c1 ⊢
            have HA := Lib.hid hA
            have i1 : (0 : Int) ≤ (k : Int) := by omega
            have i2 : (k : Int) < (es.length : Int) := by omega
            have han : a < n := by omega
            have hbn : b < n := by omega
            have a1 : (0 : Int) ≤ (a : Int) := by omega
            have a2 : (a : Int) < (n : Int) := by omega
            have b1 : (0 : Int) ≤ (b : Int) := by omega
            have b2 : (b : Int) < (n : Int) := by omega
            have ca := hG.out.row.cell (natL_get (f := L) han)
            have cb := hG.out.row.cell (natL_get (f := L) hbn)
            have hEab : adjE es a b := .inr hmem
            have g1 := hL.out.edge a b hEab
            have g2 := hL.out.edge b a hEab.symm
            obtain ⟨p, hp⟩ : ∃ p, p = L a := ⟨_, rfl⟩
            obtain ⟨q, hq⟩ : ∃ q, q = L b := ⟨_, rfl⟩
            rw [← hp] at ca g1 g2
            rw [← hq] at cb g1 g2
            have j1 : ((p : Int) == 1 && (q : Int) == 0) = false := by simp; intro h; have := g1 (by omega); omega
            have j2 : ((p : Int) == 0 && (q : Int) == 1) = false := by simp; intro h; omega
            clear hA hxy hmem hEab hp hq
            go_upto_region 17 with fail
            go_quiet (fail)
            go_upto_region 19 with fail
            all_goals exact ⟨⟨k + 1, by go_num, by omega, by rw [← HA.out]; exact hG.out.go (below_drewN0 (Below.refl _ _) nq)⟩, by simp [intOf]; omega⟩
          · have i2 : ¬ (k : Int) < (es.length : Int) := by omega
            go_wp2_with fail
            go_ret
            exact ⟨rfl, hG.out.g.box.below⟩
end Go.Proofs.Ytgddfmfiiodgbaa
