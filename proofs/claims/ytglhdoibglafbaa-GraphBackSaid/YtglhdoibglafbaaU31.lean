/- GraphBack, walked. -/
import Derived.Test.YtglhdoibglafbaaU29
import Derived.Test.YtglhdoibglafbaaU28
import Derived.Test.YtglhdoibglafbaaU16
import Derived.Test.YtglhdoibglafbaaU18
import Derived.Test.YtglhdoibglafbaaU13
import Derived.Test.YtglhdoibglafbaaU30
namespace Go.Proofs.Ytglhdoibglafbaa
open Go Go.RowKit
set_option maxRecDepth 100000
set_option linter.unusedVariables false
set_option linter.unusedSimpArgs false

/-- A graph in its block. -/
structure GB1 (w : World) (b : Nat) (n : Int) (es : List (Int × Int)) (A : Option Addr) (c : Nat) (wc : World) : Prop where
  box : Box2 w b (.int .i64 n) (.slice A es.length c) 25 wc
  rd : Reads wc A (pcells es)
  cap : es.length ≤ c
theorem GB1.go {w wc wd : World} {b : Nat} {n : Int} {es : List (Int × Int)} {A : Option Addr} {c : Nat} (h : GB1 w b n es A c wc) (hb : Below wc.heap.size wc wd) : GB1 w b n es A c wd := ⟨h.box.go hb, h.rd.below hb, h.cap⟩
theorem GB1.new {w wc : World} {n : Int} {es : List (Int × Int)} {A : Option Addr} {c : Nat} (h : Below w.heap.size w wc) (hr : Reads wc A (pcells es)) (hc : es.length ≤ c) : GB1 w wc.heap.size n es A c (wc.alloc (.cells #[.int .i64 n, .slice A es.length c] 25)) :=
  ⟨Box2.new h _ _ _, hr.below ((Below.refl _ _).alloc (Nat.le_refl _) _), hc⟩
theorem addErr_vals (n : Int) (es : List (Int × Int)) (a b : Int) : addErr n es a b = 0 ∨ addErr n es a b = 3 ∨ addErr n es a b = 4 ∨ addErr n es a b = 5 ∨ addErr n es a b = 6 ∨ addErr n es a b = 8 := by
  unfold addErr
  repeat' split
  all_goals simp
theorem chL_len {e : Int} {l : List (Int × Int)} : (chL e l).length ≤ l.length := by unfold chL; split <;> simp


set_option maxHeartbeats 4000000 in
theorem back_any (n0 : Int) (ends turns : List Int) (Ae At : Option Addr) (ce ct : Nat) (a b : Int) (w : World) (hn1 : -9223372036854775808 ≤ n0) (hn2 : n0 ≤ 9223372036854775807)
    (hre : Reads w Ae (icells ends)) (hce : ends.length ≤ ce) (hme : ends.length ≤ 4611686018427387903) (hrt : Reads w At (icells turns)) (hct : turns.length ≤ ct) (hmt : turns.length ≤ 4611686018427387903) :
    Calls Try.prog 14 #[.int .i64 n0, .slice Ae ends.length ce, .slice At turns.length ct, .int .i64 a, .int .i64 b] w fun e w' => e = .returned (.bool true) ∧ Below w.heap.size w w' := by
  have HSM := small_any n0 20 40 ends Ae ce w (by omega) (by omega) (by omega) (by omega) hn1 hn2 hre hce hme
  have HRT := Lib.hid hrt
  clear hn1 hn2 hre hrt
  go_enter Try.func14, Try.ntmps14
  go_upto_region 2 with (go_at_call 41; (refine HSM.mono ?_; rintro e w1 ⟨n, es, A, c, rfl, hP, hn, hes, hc, hrd, hb1⟩))
  have hG1 := GB1.new (n := n) hb1 hrd hc
  generalize w1.alloc (.cells #[Value.int IntKind.i64 n, Value.slice A es.length c] 25) = w2 at hG1 ⊢
  obtain ⟨b1, hb⟩ : ∃ b, b = w1.heap.size := ⟨_, rfl⟩
  rw [← hb] at hG1 ⊢
  clear hrd hb1 hb HSM
  obtain ⟨E1, hE1⟩ : ∃ E, E = addErr n es a b := ⟨_, rfl⟩
  obtain ⟨L1, hL1⟩ : ∃ L, L = chL (addErr n es a b) (putE es (min a b, max a b)) := ⟨_, rfl⟩
  obtain ⟨N1, hN1⟩ : ∃ N, N = chN (addErr n es a b) n := ⟨_, rfl⟩
  obtain ⟨E2, hE2⟩ : ∃ E, E = rmErr N1 L1 b a := ⟨_, rfl⟩
  obtain ⟨L2, hL2⟩ : ∃ L, L = chL (rmErr N1 L1 b a) (rmL N1 L1 b a) := ⟨_, rfl⟩
  obtain ⟨N2, hN2⟩ : ∃ N, N = chN (rmErr N1 L1 b a) N1 := ⟨_, rfl⟩
  have hl1 : L1.length ≤ 41 := by rw [hL1]; have := chL_len (e := addErr n es a b) (l := putE es (min a b, max a b)); rw [putE_length] at this; omega
  have hes40 : es.length ≤ 40 := by omega
  have H0 : Hid (E1 = 0 → N1 = n ∧ E2 = 0 ∧ N2 = n ∧ L2 = es ∧ hasB N1 L1 b a = true ∧ (nearB N1 L1 a).length = (nearB n es a).length + 1) := fun h => by
    rw [hE1] at h
    have h1 : L1 = putE es (min a b, max a b) := by rw [hL1, h, chL, if_pos rfl]
    have h2 : N1 = n := by rw [hN1, h, chN, if_pos rfl]
    obtain ⟨r1, r2⟩ := rm_back h
    rw [hE2, hN2, hL2, h1, h2, r1, r2]
    exact ⟨rfl, rfl, rfl, rfl, has_put h, degree_put h⟩
  have hEv : E1 = 0 ∨ E1 = 3 ∨ E1 = 4 ∨ E1 = 5 ∨ E1 = 6 ∨ E1 = 8 := by rw [hE1]; exact addErr_vals n es a b
  have HEV := Lib.hid hEv
  clear hEv
  have HAD := (show Calls Try.prog 57 #[.agg #[.int .i64 n, .slice A es.length c], .int .i64 a, .int .i64 b] w2 (ChPost N1 E1 L1 w2) from by rw [hN1, hE1, hL1]; exact (add_any n a b es A c w2 hG1.rd hG1.cap (by omega)).mono fun e w' h => h.ch)
  have HRM := fun (W : World) (A1 : Option Addr) (c1 : Nat) (h1 : Reads W A1 (pcells L1)) (h2 : L1.length ≤ c1) => (show Calls Try.prog 59 #[.agg #[.int .i64 N1, .slice A1 L1.length c1], .int .i64 b, .int .i64 a] W (ChPost N2 E2 L2 W) from by rw [hN2, hE2, hL2]; exact (remove_any N1 b a L1 A1 c1 W h1 h2 (by omega)).mono fun e w' h => h.ch)
  have c0 := hG1.box.c0
  have c1 := hG1.box.c1
  clear hE1 hL1 hN1 hE2 hL2 hN2
  go_upto_region 3 with (go_at_call 57; (refine HAD.mono ?_; rintro e w3 ⟨A1, d1, rfl, hd1, hrd1, hb3⟩))
  have hG3 := hG1.go hb3
  have hX3 := GB1.new (n := N1) hG3.box.below hrd1 hd1
  have hG4 := hG3.go ((Below.refl w3.heap.size w3).alloc (Nat.le_refl _) (.cells #[Value.int IntKind.i64 N1, Value.slice A1 L1.length d1] 25))
  generalize w3.alloc (.cells #[Value.int IntKind.i64 N1, Value.slice A1 L1.length d1] 25) = w4 at hX3 hG4 ⊢
  obtain ⟨b2, hb⟩ : ∃ b, b = w3.heap.size := ⟨_, rfl⟩
  rw [← hb] at hX3 ⊢
  clear c0 c1 hG1 hG3 hrd1 hb3 hb HAD
  have HRM4 := HRM w4 A1 d1 hX3.rd hX3.cap
  have c0 := hX3.box.c0
  have c1 := hX3.box.c1
  clear HRM
  go_upto_region 4 with (go_at_call 59; (refine HRM4.mono ?_; rintro e w5 ⟨A2, d2, rfl, hd2, hrd2, hb5⟩))
  have hX5 := hX3.go hb5
  have hG5 := hG4.go hb5
  have hY5 := GB1.new (n := N2) hG5.box.below hrd2 hd2
  have hX6 := hX5.go ((Below.refl w5.heap.size w5).alloc (Nat.le_refl _) (.cells #[Value.int IntKind.i64 N2, Value.slice A2 L2.length d2] 25))
  have hG6 := hG5.go ((Below.refl w5.heap.size w5).alloc (Nat.le_refl _) (.cells #[Value.int IntKind.i64 N2, Value.slice A2 L2.length d2] 25))
  generalize w5.alloc (.cells #[Value.int IntKind.i64 N2, Value.slice A2 L2.length d2] 25) = w6 at hY5 hX6 hG6 ⊢
  obtain ⟨b3, hb⟩ : ∃ b, b = w5.heap.size := ⟨_, rfl⟩
  rw [← hb] at hY5 ⊢
  clear c0 c1 hX3 hG4 hX5 hG5 hrd2 hb5 hb HRM4
  have HG6 := Lib.hid hG6
  have HX6 := Lib.hid hX6
  have HY6 := Lib.hid hY5
  have HP := Lib.hid hP
  clear hG6 hX6 hY5 hP
  go_cut [70] (fun t wc => t = .bool false ∧ Hid (Below w6.heap.size w6 wc))
  case first =>
    have x0 := HG6.out.box.c0
    have x1 := HG6.out.box.c1
    have y0 := HX6.out.box.c0
    have y1 := HX6.out.box.c1
    have z0 := HY6.out.box.c0
    have z1 := HY6.out.box.c1
    by_cases h0 : E1 = 0
    · obtain ⟨rfl, rfl, rfl, rfl, hh, hdg⟩ := H0.out h0
      subst h0
      have HC : Hid (∀ W, Below w6.heap.size w6 W → W.cell? ⟨b1, 0, none⟩ = some (.int .i64 N2) ∧ W.cell? ⟨b1, 1, none⟩ = some (.slice A L2.length c) ∧ W.cell? ⟨b2, 0, none⟩ = some (.int .i64 N2) ∧ W.cell? ⟨b2, 1, none⟩ = some (.slice A1 L1.length d1) ∧ W.cell? ⟨b3, 0, none⟩ = some (.int .i64 N2) ∧ W.cell? ⟨b3, 1, none⟩ = some (.slice A2 L2.length d2)) :=
        fun W h => ⟨(HG6.out.go h).box.c0, (HG6.out.go h).box.c1, (HX6.out.go h).box.c0, (HX6.out.go h).box.c1, (HY6.out.go h).box.c0, (HY6.out.go h).box.c1⟩
      have HEQ := fun (W : World) (h : Below w6.heap.size w6 W) => graph_eq N2 L2 A2 A d2 c W (HY6.out.go h).rd (HG6.out.go h).rd (HY6.out.go h).cap (HG6.out.go h).cap (by omega)
      have HHA := fun (W : World) (h : Below w6.heap.size w6 W) => has_any N2 b a L1 A1 d1 W (HX6.out.go h).rd (HX6.out.go h).cap (by omega)
      have HD1 := fun (W : World) (h : Below w6.heap.size w6 W) => degree_any N2 a L1 A1 d1 W (HX6.out.go h).rd (HX6.out.go h).cap (by omega)
      have HD2 := fun (W : World) (h : Below w6.heap.size w6 W) => degree_any N2 a L2 A c W (HG6.out.go h).rd (HG6.out.go h).cap (by omega)
      rw [hh] at HHA
      rw [hdg] at HD1
      have hdl : (nearB N2 L2 a).length ≤ 1000 := by
        unfold nearB
        split
        · have := nearL_length L2 a; omega
        · simp
      generalize (nearB N2 L2 a).length = dg at HD1 HD2 hdl
      clear hh hdg
      have w9 : IntKind.i64.wrap ((dg : Int) + 1) = ((dg + 1 : Nat) : Int) := by rw [IntKind.wrap_i64]; omega
      have q0 : ∀ x : WB w6, x.w.cell? ⟨b1, 0, none⟩ = some (.int .i64 N2) := fun x => (HC.out x.w x.b).1
      have q1 : ∀ x : WB w6, x.w.cell? ⟨b1, 1, none⟩ = some (.slice A L2.length c) := fun x => (HC.out x.w x.b).2.1
      have q2 : ∀ x : WB w6, x.w.cell? ⟨b2, 0, none⟩ = some (.int .i64 N2) := fun x => (HC.out x.w x.b).2.2.1
      have q3 : ∀ x : WB w6, x.w.cell? ⟨b2, 1, none⟩ = some (.slice A1 L1.length d1) := fun x => (HC.out x.w x.b).2.2.2.1
      have q4 : ∀ x : WB w6, x.w.cell? ⟨b3, 0, none⟩ = some (.int .i64 N2) := fun x => (HC.out x.w x.b).2.2.2.2.1
      have q5 : ∀ x : WB w6, x.w.cell? ⟨b3, 1, none⟩ = some (.slice A2 L2.length d2) := fun x => (HC.out x.w x.b).2.2.2.2.2
      (refine wp_region_below w6 (by kernel_rfl) (by kernel_rfl) (Below.refl _ _) ?_)
      repeat (go_big_quiet_step ((first | (go_at_call 25; exact Calls.wb_of fun W _ => awake02 W) | (go_at_call 29; exact Calls.wb_of HEQ) | (go_at_call 33; exact Calls.wb_of HHA) | (go_at_call 40; first | exact Calls.wb_of HD1 | exact Calls.wb_of HD2))))
      (refine wpQuiet_nil ?_
       intro _ hw'
       obtain ⟨xq, hw''⟩ := hw'
       have hbq := xq.b
       subst hw''
       generalize xq.w = wq at hbq ⊢)
      all_goals
        go_wp2_with fail
        go_meet
        exact ⟨by simp, Lib.hid hbq⟩
    · have HC : Hid (∀ W, Below w6.heap.size w6 W → W.cell? ⟨b1, 0, none⟩ = some (.int .i64 n)) := fun W h => (HG6.out.go h).box.c0
      clear H0
      rcases HEV.out with rfl | rfl | rfl | rfl | rfl | rfl
      · exact absurd rfl h0
      all_goals
        (refine wp_region_below w6 (by kernel_rfl) (by kernel_rfl) (Below.refl _ _) ?_)
        repeat (go_big_quiet_step ((go_at_call 25; exact Calls.wb_of fun W _ => awake02 W)))
        (refine wpQuiet_nil ?_
         intro _ hw'
         obtain ⟨xq, hw''⟩ := hw'
         have hbq := xq.b
         subst hw''
         generalize xq.w = wq at hbq ⊢)
        go_wp2_with fail
        go_meet
        exact ⟨by simp, Lib.hid hbq⟩
  case rest =>
    obtain ⟨rfl, hbc⟩ := hcut
    obtain ⟨V7, rfl⟩ : ∃ V : World, V = wc := ⟨_, rfl⟩
    have hG7 := HG6.out.go hbc.out
    have HG7 := Lib.hid hG7
    have c0 := hG7.box.c0
    have c1 := hG7.box.c1
    clear HX6 HY6 H0 hG7 HG6 hbc
    go_upto_region 7 with (at_builtin; go_loud (
         refine wpList_app EI_edge rfl (.const (.slice none 0 0)) (.tmp 72) rfl V7.heap.size (.slice none 0 0) 0 [] rfl (own_nil0 _ _ _ _) A es.length c (pcells es) rfl ?_ ?_ (pcells_one _) ?_ ?_ ?_
         · exact HG7.out.rd
         · rw [pcells_length]; omega
         · omega
         · exact Nat.le_refl _
         intro v8 w8 hown8 hg8 hat8
         have hb8 : Below V7.heap.size V7 w8 := below_app (Below.refl _ _) hg8 (Nat.le_refl _) (by simp [Value.ownBlock])))
    simp only [Nat.zero_add, List.nil_append] at hown8
    obtain ⟨A8, c8, rfl, hc8, hrd8⟩ := own_reads0 hown8
    have HO8 := Lib.hid hown8
    have HB8 := Lib.hid hb8
    have hnn := map_nrm_right HP.out
    have HNN := Lib.hid hnn
    have c2 := (HG7.out.go hb8).box.c0
    clear c0 c1 hown8 hg8 hat8 hb8 hrd8 hnn c2
    go_wp2_with fail
    go_loopw [17] (fun i wr => ∃ (j : Nat) (L : List (Int × Int)), i = .int .i64 j ∧ j ≤ 60 ∧ Hid (L.length = es.length ∧ (L.map nrm).Perm es) ∧ Hid (wr.ownsRow V7.heap.size 28 2 (.slice A8 es.length c8) es.length (pcells L)) ∧ Hid (Below V7.heap.size V7 wr)) (fun i _ => 60 - (intOf i).toNat)
    case atStart => exact ⟨0, es, rfl, Nat.zero_le _, ⟨rfl, by rw [HNN.out]⟩, HO8, HB8⟩
    case round =>
      clear HO8 HB8
      obtain ⟨j, L, rfl, hj, hL, ho, hb⟩ := hrel
      by_cases hgo : j < turns.length ∧ j < 60 ∧ 0 < es.length
      · obtain ⟨h1, h2, h3⟩ := hgo
        have d1 : decide ((j : Int) < (turns.length : Int)) = true := decide_eq_true (by omega)
        have d2 : decide ((j : Int) < 60) = true := decide_eq_true (by omega)
        have d3 : decide ((0 : Int) < (es.length : Int)) = true := decide_eq_true (by omega)
        obtain ⟨z, hz⟩ : ∃ z, turns[j]? = some z := ⟨turns[j], by simp [h1]⟩
        obtain ⟨r, hr1, hr2⟩ : ∃ r : Nat, (IntKind.u64.wrap z).tmod (es.length : Int) = (r : Int) ∧ r < es.length := by
          have h4 : 0 ≤ IntKind.u64.wrap z := by rw [IntKind.wrap_u64]; omega
          generalize IntKind.u64.wrap z = u at *
          have h5 := Int.tmod_nonneg (es.length : Int) h4
          have h6 := Int.tmod_lt_of_pos u (show 0 < (es.length : Int) by omega)
          exact ⟨(u.tmod (es.length : Int)).toNat, by omega, by omega⟩
        obtain ⟨q, hq1, hq2⟩ : ∃ q : Nat, (j : Int).tmod (es.length : Int) = (q : Int) ∧ q < es.length := by
          have h5 := Int.tmod_nonneg (es.length : Int) (show 0 ≤ (j : Int) by omega)
          have h6 := Int.tmod_lt_of_pos (j : Int) (show 0 < (es.length : Int) by omega)
          exact ⟨((j : Int).tmod (es.length : Int)).toNat, by omega, by omega⟩
        obtain ⟨g, c9, cur, hv, hg, hgl, hh, hnc, hmx, hsz, htk⟩ := own_open ho.out (by omega)
        simp only [Value.slice.injEq] at hv
        obtain ⟨rfl, -, rfl⟩ := hv
        obtain ⟨pb, po, hpA, hpbl, cp⟩ := ((HRT.out.below HG7.out.box.below).below hb.out).int j _ hz
        rw [hpA]
        have HPA := Lib.hid hpA
        obtain ⟨rest, hrest⟩ : ∃ rest, rest = cur.drop (es.length * 2) := ⟨_, rfl⟩
        have hcur : cur = pcells L ++ rest := by rw [hrest, ← htk, List.take_append_drop]
        obtain ⟨dk, hdk⟩ : ∃ dk : Array PE, dk = L.toArray := ⟨_, rfl⟩
        have hds : dk.size = es.length := by rw [hdk]; simpa using hL.out.1
        have hS : Hid (SR wr g 28 rest dk wr) := ⟨by rw [hh, hcur, hdk], rfl, rfl, rfl, Nat.le_refl _, fun _ _ _ => rfl⟩
        have HFIN : Hid (cur.length = c8 * 2 ∧ cur = pcells L ++ rest ∧ dk = L.toArray ∧ es.length ≤ c8 ∧ c8 ≤ maxLen) := ⟨hsz, hcur, hdk, hnc, hmx⟩
        have i1 : (0 : Int) ≤ (j : Int) := by omega
        have i2 : (j : Int) < (turns.length : Int) := by omega
        have i3 : (0 : Int) ≤ (r : Int) := by omega
        have i4 : (r : Int) < (es.length : Int) := by omega
        have i5 : (0 : Int) ≤ (q : Int) := by omega
        have i6 : (q : Int) < (es.length : Int) := by omega
        have u1 : IntKind.u64.wrap (es.length : Int) = (es.length : Int) := by rw [IntKind.wrap_u64]; omega
        have u2 : IntKind.i64.wrap (r : Int) = (r : Int) := by rw [IntKind.wrap_i64]; omega
        have u6 : IntKind.i64.wrap (q : Int) = (q : Int) := by rw [IntKind.wrap_i64]; omega
        have u5 : es ≠ [] := fun e => by rw [e] at h3; simp at h3
        have u3 : ((es.length : Int) == 0) = false := by simp [u5]
        have u4 : ¬ (es.length : Int) = 0 := by simp [u5]
        clear hdk hcur hrest htk hh hsz hnc hmx hz hpA
        go_upto_region 11 with fail
        ((obtain ⟨x, hx⟩ : ∃ x : PE, x = dk[q]! := ⟨_, rfl⟩
          obtain ⟨y, hy⟩ : ∃ y : PE, y = dk[r]! := ⟨_, rfl⟩
          have x0 := hS.out.cell0 (i := q) (by omega)
          have x1 := hS.out.cell1 (i := q) (by omega)
          have y0 := hS.out.cell0 (i := r) (by omega)
          have y1 := hS.out.cell1 (i := r) (by omega)
          rw [← hx] at x0 x1
          rw [← hy] at y0 y1
          have HX := Lib.hid hx
          have HY := Lib.hid hy
          clear hx hy)
         have z1 := hS.out.frozen ((q) * 2)
         have z2 := hS.out.frozen ((q) * 2 + 1)
         have z3 := hS.out.frozen ((r) * 2)
         have z4 := hS.out.frozen ((r) * 2 + 1)
         have hw1 := hS.out.swx (i := q) (j := r) (by omega) (by omega) HX.out HY.out
         have hw2 := hS.out.swx' (i := q) (j := r) (by omega) (by omega) HX.out HY.out
         have hA := (hS.out.put (i := q) (by omega) y).drew
         have hB := (hS.out.put (i := r) (by omega) x).drew
         have a0 := hA.cell0 (i := r) (by rw [Array.size_setIfInBounds]; omega)
         have a1 := hA.cell1 (i := r) (by rw [Array.size_setIfInBounds]; omega)
         have a2 := hA.frozen ((r) * 2)
         have a3 := hA.frozen ((r) * 2 + 1)
         have b0 := hB.cell0 (i := q) (by rw [Array.size_setIfInBounds]; omega)
         have b1' := hB.cell1 (i := q) (by rw [Array.size_setIfInBounds]; omega)
         have b2' := hB.frozen ((q) * 2)
         have b3' := hB.frozen ((q) * 2 + 1)
         have hA' := hS.out.put (i := q) (by omega) y
         have hB' := hS.out.put (i := r) (by omega) x
         have a4 := hA'.cell0 (i := r) (by rw [Array.size_setIfInBounds]; omega)
         have a5 := hA'.cell1 (i := r) (by rw [Array.size_setIfInBounds]; omega)
         have a6 := hA'.frozen ((r) * 2)
         have a7 := hA'.frozen ((r) * 2 + 1)
         have b4 := hB'.cell0 (i := q) (by rw [Array.size_setIfInBounds]; omega)
         have b5 := hB'.cell1 (i := q) (by rw [Array.size_setIfInBounds]; omega)
         have b6 := hB'.frozen ((q) * 2)
         have b7 := hB'.frozen ((q) * 2 + 1)
         clear hA hB hA' hB'
         go_cut [] (fun wd => Hid (SR wr g 28 rest (Sort.swp dk (q) (r)) wd))
         case first =>
           go_region
           all_goals
             go_wp2_with fail
             go_meet
             unfold Hid
             first | (with_reducible exact hw1.drew) | (with_reducible exact hw2.drew) | (with_reducible exact hw1) | (with_reducible exact hw2)
         clear a0 a1 a2 a3 b0 b1' b2' b3' a4 a5 a6 a7 b4 b5 b6 b7 hw1 hw2 z1 z2 z3 z4 x0 x1 y0 y1 HX HY)
        obtain ⟨x, hx⟩ : ∃ x : PE, x = (Sort.swp dk q r)[r]! := ⟨_, rfl⟩
        have hsz' : (Sort.swp dk q r).size = dk.size := by simp [Sort.swp]
        have x0 := hcut.out.cell0 (i := r) (by omega)
        have x1 := hcut.out.cell1 (i := r) (by omega)
        rw [← hx] at x0 x1
        have z0 := hcut.out.frozen (r * 2)
        have z1 := hcut.out.frozen (r * 2 + 1)
        have HX := Lib.hid hx
        clear hx
        go_wp2_with fail
        (refine wp_region_rws [0, 0, 1, 1, 0, 0, 0, 0, 0, 0, 0, 0, 0, 0, 0, 0, 2, 2, 2, 2] (by kernel_rfl) (by kernel_rfl) (by kernel_rfl) (fun _ _ d _ _ h => by cases d <;> exact h) ?_
         simp only [pickL, reduceIte, Nat.reduceEqDiff]
         repeat (go_big_quiet_step (fail))
         refine wpQuiet_nil ?_
         repeat (refine wpW_step ?_ ?_ ?_; rotate_left; focus (intro w1; go_simp; first | done | with_reducible rfl))
         refine wpW_nil ?_
         intro _ hw'
         obtain ⟨nq, hw''⟩ := hw'
         subst hw'')
        go_wp2_with fail
        have hT := (hcut.out.below (below_drewN0 (Below.refl _ _) nq)).put (i := r) (by omega) (x.2, x.1)
        have hTA : (Sort.swp dk q r).setIfInBounds r (x.2, x.1) = turnA dk q r := by rw [HX.out]; rfl
        rw [hTA] at hT
        obtain ⟨k1, k2, k3, k4, k5, k6⟩ := hT
        obtain ⟨f1, f2, f3, f4, f5⟩ := HFIN.out
        have hl1 : (pcells (turnA dk q r).toList).length = es.length * 2 := by rw [pcells_length, Array.length_toList, turnA_size, hds]; omega
        have hpm := turnA_perm dk (i := q) (j := r) (by omega) (by omega)
        refine ⟨⟨j + 1, (turnA dk q r).toList, by go_num, by omega, Lib.hid ⟨by rw [Array.length_toList, turnA_size, hds], hpm.trans (by rw [f3]; exact hL.out.2)⟩, Lib.hid (own_shut hg k1 f4 f5 ?_ ?_), Lib.hid (hb.out.trans ⟨k2, k3, k4, k5, fun k hk => k6 k (by have := hb.out.size; omega) (by omega)⟩)⟩, by simp [intOf]; omega⟩
        · have h8 : (pcells L).length = es.length * 2 := by rw [pcells_length, hL.out.1]; omega
          rw [f2, List.length_append] at f1
          rw [List.length_append]
          omega
        · rw [List.take_left' hl1]
      · have hmk := mk_back HP.out hL.out.2 (by rw [hL.out.1]; omega)
        have HMK := gmk_any n L A8 c8 wr (own_reads1 (by rw [← hL.out.1] at ho; exact ho.out)).1 (by rw [hL.out.1]; exact hc8) (by rw [hL.out.1]; omega)
        rw [hmk.1, hmk.2, chN, chL, if_pos rfl, if_pos rfl, hL.out.1] at HMK
        have hG9 := HG7.out.go hb.out
        have c0 := hG9.box.c0
        have c1 := hG9.box.c1
        have HG9 := Lib.hid hG9
        clear hmk hG9
        have hcase : (¬ j < turns.length) ∨ (j < turns.length ∧ ¬ j < 60) ∨ (j < turns.length ∧ j < 60 ∧ ¬ 0 < es.length) := by omega
        rcases hcase with h1 | ⟨h1, h2⟩ | ⟨h1, h2, h3⟩
        · have d1 : decide ((j : Int) < (turns.length : Int)) = false := decide_eq_false (by omega)
          clear hgo
          (go_upto_region 14 with (go_at_call 27; go_loud ((with_reducible refine HMK.mono ?_); rintro e v1 ⟨A9, d9, rfl, hd9, hrd9, hb9⟩))
           have hX9 := Lib.hid (Box2.new (HG9.out.go hb9).box.below (.int .i64 n) (.slice A9 es.length d9) 25)
           have hg9 := (HG9.out.go hb9).go ((Below.refl v1.heap.size v1).alloc (Nat.le_refl _) (.cells #[Value.int IntKind.i64 n, Value.slice A9 es.length d9] 25))
           have hr9 := hrd9.below ((Below.refl v1.heap.size v1).alloc (Nat.le_refl _) (.cells #[Value.int IntKind.i64 n, Value.slice A9 es.length d9] 25))
           have HEQ9 := graph_eq n es A9 A d9 c (v1.alloc (.cells #[Value.int IntKind.i64 n, Value.slice A9 es.length d9] 25)) hr9 hg9.rd hd9 hg9.cap (by omega)
           have HG99 := Lib.hid hg9
           generalize v1.alloc (.cells #[Value.int IntKind.i64 n, Value.slice A9 es.length d9] 25) = v2 at *
           have y0 := hX9.out.c0
           have y1 := hX9.out.c1
           have z0 := HG99.out.box.c0
           have z1 := HG99.out.box.c1
           clear c0 c1 hr9 hg9 hrd9
           go_wp2_with (go_at_call 29; ((with_reducible refine HEQ9.mono ?_); rintro e v3 ⟨rfl, hb10⟩))
           go_ret
           exact ⟨by simp, HG99.out.box.below.trans (hb10.mono HG99.out.box.below.size)⟩)
        · have d1 : decide ((j : Int) < (turns.length : Int)) = true := decide_eq_true (by omega)
          have d2 : decide ((j : Int) < 60) = false := decide_eq_false (by omega)
          clear hgo
          (go_upto_region 14 with (go_at_call 27; go_loud ((with_reducible refine HMK.mono ?_); rintro e v1 ⟨A9, d9, rfl, hd9, hrd9, hb9⟩))
           have hX9 := Lib.hid (Box2.new (HG9.out.go hb9).box.below (.int .i64 n) (.slice A9 es.length d9) 25)
           have hg9 := (HG9.out.go hb9).go ((Below.refl v1.heap.size v1).alloc (Nat.le_refl _) (.cells #[Value.int IntKind.i64 n, Value.slice A9 es.length d9] 25))
           have hr9 := hrd9.below ((Below.refl v1.heap.size v1).alloc (Nat.le_refl _) (.cells #[Value.int IntKind.i64 n, Value.slice A9 es.length d9] 25))
           have HEQ9 := graph_eq n es A9 A d9 c (v1.alloc (.cells #[Value.int IntKind.i64 n, Value.slice A9 es.length d9] 25)) hr9 hg9.rd hd9 hg9.cap (by omega)
           have HG99 := Lib.hid hg9
           generalize v1.alloc (.cells #[Value.int IntKind.i64 n, Value.slice A9 es.length d9] 25) = v2 at *
           have y0 := hX9.out.c0
           have y1 := hX9.out.c1
           have z0 := HG99.out.box.c0
           have z1 := HG99.out.box.c1
           clear c0 c1 hr9 hg9 hrd9
           go_wp2_with (go_at_call 29; ((with_reducible refine HEQ9.mono ?_); rintro e v3 ⟨rfl, hb10⟩))
           go_ret
           exact ⟨by simp, HG99.out.box.below.trans (hb10.mono HG99.out.box.below.size)⟩)
        · have d1 : decide ((j : Int) < (turns.length : Int)) = true := decide_eq_true (by omega)
          have d2 : decide ((j : Int) < 60) = true := decide_eq_true (by omega)
          have d3 : decide ((0 : Int) < (es.length : Int)) = false := decide_eq_false (by omega)
          clear hgo
          (go_upto_region 14 with (go_at_call 27; go_loud ((with_reducible refine HMK.mono ?_); rintro e v1 ⟨A9, d9, rfl, hd9, hrd9, hb9⟩))
           have hX9 := Lib.hid (Box2.new (HG9.out.go hb9).box.below (.int .i64 n) (.slice A9 es.length d9) 25)
           have hg9 := (HG9.out.go hb9).go ((Below.refl v1.heap.size v1).alloc (Nat.le_refl _) (.cells #[Value.int IntKind.i64 n, Value.slice A9 es.length d9] 25))
           have hr9 := hrd9.below ((Below.refl v1.heap.size v1).alloc (Nat.le_refl _) (.cells #[Value.int IntKind.i64 n, Value.slice A9 es.length d9] 25))
           have HEQ9 := graph_eq n es A9 A d9 c (v1.alloc (.cells #[Value.int IntKind.i64 n, Value.slice A9 es.length d9] 25)) hr9 hg9.rd hd9 hg9.cap (by omega)
           have HG99 := Lib.hid hg9
           generalize v1.alloc (.cells #[Value.int IntKind.i64 n, Value.slice A9 es.length d9] 25) = v2 at *
           have y0 := hX9.out.c0
           have y1 := hX9.out.c1
           have z0 := HG99.out.box.c0
           have z1 := HG99.out.box.c1
           clear c0 c1 hr9 hg9 hrd9
           go_wp2_with (go_at_call 29; ((with_reducible refine HEQ9.mono ?_); rintro e v3 ⟨rfl, hb10⟩))
           go_ret
           exact ⟨by simp, HG99.out.box.below.trans (hb10.mono HG99.out.box.below.size)⟩)
end Go.Proofs.Ytglhdoibglafbaa
