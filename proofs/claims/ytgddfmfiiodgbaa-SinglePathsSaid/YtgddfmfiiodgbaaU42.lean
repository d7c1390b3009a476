/- Walk of the reference's search of all alternating paths. -/
import Derived.Test.YtgddfmfiiodgbaaU41
namespace Go.Proofs.Ytgddfmfiiodgbaa
open Go Go.RowKit
set_option maxRecDepth 100000
set_option linter.unusedVariables false
set_option linter.unusedSimpArgs false

theorem alt_tail {E : Nat → Nat → Prop} {M : Nat → Option Nat} {x y : Nat} {l : List Nat} (h : Alt E M (x :: y :: l)) : Alt E M (y :: l) := by
  cases h with
  | out h _ _ _ _ => exact h
  | back h _ _ _ => exact h
theorem alt_suffix {E : Nat → Nat → Prop} {M : Nat → Option Nat} {y : Nat} {l : List Nat} : ∀ t : List Nat, Alt E M (t ++ y :: l) → Alt E M (y :: l) := by
  intro t
  induction t with
  | nil => intro h; exact h
  | cons x t ih =>
    intro h
    refine ih ?_
    cases t with
    | nil => exact alt_tail h
    | cons z t => exact alt_tail h
theorem onw_alt {E : Nat → Nat → Prop} {M : Nat → Option Nat} {w : Nat} {q q' : List Nat} (h : Onw E M (w :: q) q') : Alt E M (w :: q) := by
  obtain ⟨ha, t, rfl⟩ := h
  exact alt_suffix t ha
theorem onw_up {E : Nat → Nat → Prop} {M : Nat → Option Nat} {w : Nat} {q q' : List Nat} (h : Onw E M (w :: q) q') : Onw E M q q' := by
  obtain ⟨ha, t, rfl⟩ := h
  exact ⟨ha, t ++ [w], by simp⟩

theorem LevOf.skip {n : Nat} {E : Nat → Nat → Prop} {M : Nat → Option Nat} {S0 : List Nat → Prop} {NL : List Nat} {v k u : Nat} {l : List Nat} {ev od : Nat → Int} {best : Int} (h : LevOf n M (fun q' => S0 q' ∨ ∃ (j u : Nat), j < k ∧ NL[j]? = some u ∧ Onw E M (u :: v :: l) q') ev od best) (hu : NL[k]? = some u) (hno : ∀ q', ¬ Onw E M (u :: v :: l) q') :
    LevOf n M (fun q' => S0 q' ∨ ∃ (j u : Nat), j < k + 1 ∧ NL[j]? = some u ∧ Onw E M (u :: v :: l) q') ev od best := by
  refine h.congr fun q' => or_congr Iff.rfl ⟨fun ⟨j, u', hj, h1, h2⟩ => ⟨j, u', by omega, h1, h2⟩, fun ⟨j, u', hj, h1, h2⟩ => ?_⟩
  by_cases e : j = k
  · subst e
    rw [hu] at h1; cases h1
    exact absurd h2 (hno _)
  · exact ⟨j, u', by omega, h1, h2⟩
theorem LevOf.more {n : Nat} {E : Nat → Nat → Prop} {M : Nat → Option Nat} {S0 : List Nat → Prop} {NL : List Nat} {v k u : Nat} {l : List Nat} {ev od : Nat → Int} {best : Int} (hu : NL[k]? = some u) (h : LevOf n M (fun q' => (S0 q' ∨ ∃ (j u : Nat), j < k ∧ NL[j]? = some u ∧ Onw E M (u :: v :: l) q') ∨ Onw E M (u :: v :: l) q') ev od best) :
    LevOf n M (fun q' => S0 q' ∨ ∃ (j u : Nat), j < k + 1 ∧ NL[j]? = some u ∧ Onw E M (u :: v :: l) q') ev od best := by
  refine h.congr fun q' => ⟨fun h => ?_, fun h => ?_⟩
  · rcases h with (h | ⟨j, u', hj, h1, h2⟩) | h
    · exact .inl h
    · exact .inr ⟨j, u', by omega, h1, h2⟩
    · exact .inr ⟨k, u, by omega, hu, h⟩
  · rcases h with h | ⟨j, u', hj, h1, h2⟩
    · exact .inl (.inl h)
    · by_cases e : j = k
      · subst e
        rw [hu] at h1; cases h1
        exact .inr h2
      · exact .inl (.inr ⟨j, u', by omega, h1, h2⟩)

def OnPost (L : LvL) (M : Nat → Option Nat) (Sn : List Nat → Prop) (q : List Nat) (wr : World) (e : Ending) (w' : World) : Prop :=
  e = .returned (.tuple #[]) ∧ ∃ ev od best, LvW L M ev od best w' ∧ LevOf L.n M (fun q' => Sn q' ∨ Onw (adjE L.es) M q q') ev od best ∧ Tch L.s L.e L.o wr w'

theorem nodup_ltL {p : List Nat} {n : Nat} (hn : p.Nodup) (h : ∀ x ∈ p, x < n) : p.length ≤ n := by
  have := len_le_rel (fun a b : Nat => a = b) (fun a a' b h h' => h.trans h'.symm) p (List.range n) hn fun a ha => ⟨a, by simpa using h a ha, rfl⟩
  simpa using this

theorem least_quiet (a b : Int) (w : World) : Calls Try.prog 176 #[.int .i64 a, .int .i64 b] w fun e w' => e = .returned (.int .i64 (leastI a b)) ∧ w' = w := (least_any a b w).mono fun _ _ h => ⟨h.1, h.2.symm⟩


set_option maxHeartbeats 1000000 in
theorem on_any (L : LvL) {M : Nat → Option Nat} (hP : RightP (L.n : Int) L.es) (hM : IsMat L.n (adjE L.es) M) (hc : L.es.length ≤ L.c) : ∀ (d v : Nat) (l : List Nat) (Sn : List Nat → Prop) (ev od : Nat → Int) (best : Int) (pA : Option Addr) (pc : Nat) (wr : World),
    Alt (adjE L.es) M (v :: l) → (∀ x ∈ v :: l, x < L.n) → (v :: l).length + d = L.n + 1 → LvW L M ev od best wr → LevOf L.n M Sn ev od best →
    Reads wr pA (icells (natI (v :: l).reverse)) → (v :: l).length ≤ pc → (∀ q, pA = some q → q.block ≠ L.s ∧ q.block ≠ L.e ∧ q.block ≠ L.o) →
    Calls Try.prog 144 #[.pointer (some ⟨L.s, 0, none⟩), .slice pA (v :: l).length pc] wr (OnPost L M Sn (v :: l) wr) := by
  have hn4 : L.n ≤ 4096 := by have := hP.n1; omega
  intro d
  induction d with
  | zero =>
    intro v l Sn ev od best pA pc wr hA hlt hd
    have := nodup_ltL hA.nodup hlt
    omega
  | succ d ih =>
    intro v l Sn ev od best pA pc wr hA hlt hd hW hV hr hpc hpd
    have hv : v < L.n := hlt v (by simp)
    have hlen : (v :: l).length = l.length + 1 := rfl
    have hkn := nodup_ltL hA.nodup hlt
    obtain ⟨m, hm⟩ : ∃ m, m = l.length := ⟨_, rfl⟩
    obtain ⟨K, hK⟩ : ∃ K, K = (v :: l).length := ⟨_, rfl⟩
    have hKm : K = m + 1 := by rw [hK, hlen, hm]
    have hPm : (natI (v :: l).reverse)[m]? = some (v : Int) := by
      refine natI_get ?_
      rw [hm, List.reverse_cons, List.getElem?_append_right (by simp)]
      simp
    have HKM := Lib.hid (And.intro hm hK)
    have HA := Lib.hid hA
    have HLT := Lib.hid hlt
    have HR := Lib.hid hr
    have HPD := Lib.hid hpd
    have HW := Lib.hid hW
    have HV := Lib.hid hV
    obtain ⟨pb, po, hpA, hpb, cp⟩ := hr.int m _ hPm
    have w1 : IntKind.i64.wrap ((K : Int) - 1) = (m : Int) := by rw [IntKind.wrap_i64]; omega
    have w2 : (m : Int) < (K : Int) := by omega
    have w3 : (0 : Int) ≤ (m : Int) := by omega
    have hm0 : m + d + 1 ≤ L.n ∧ L.n ≤ m + d + 1 := by omega
    have HM0 := Lib.hid hm0
    rw [← hK] at hpc ⊢
    rw [hpA]
    have HPA := Lib.hid hpA
    (have y0 := blkc0 hW.blk 0 _ rfl
     have y1 := blkc0 hW.blk 1 _ rfl
     have y2 := blkc0 hW.blk 2 _ rfl
     have y3 := blkc0 hW.blk 3 _ rfl
     have y4 := blkc0 hW.blk 4 _ rfl
     have y5 := blkc0 hW.blk 5 _ rfl)
    have v1 : (0 : Int) ≤ (v : Int) := by omega
    have v2 : (v : Int) < (L.n : Int) := by omega
    have hm4 : m ≤ 4096 := by omega
    have hK4 : K ≤ 5000 := by omega
    clear hA hlt hr hpd hW hV hpA hm hK hKm hPm hlen hd hm0 hkn
    go_enter Try.func144, Try.ntmps144
    by_cases hpar : m % 2 = 0
    · have p1 : (m : Int).tmod 2 = 0 := by rw [Int.tmod_eq_emod_of_nonneg (by omega)]; omega
      have p2 : ((m : Int).tmod 2 == 0) = true := beq_iff_eq.2 p1
      have p3 : ((m : Int).tmod 2 == 1) = false := by rw [p1]; rfl
      have p4 : ¬ (m : Int).tmod 2 = 1 := by rw [p1]; omega
      obtain ⟨g', c', hg', _, _, _, hcell, hfroz⟩ := own_block HW.out.re (by omega)
      simp only [Value.slice.injEq, Option.some.injEq, Addr.mk.injEq, and_true, true_and] at hg'
      obtain ⟨hge, _⟩ := hg'
      have x1 := hcell v _ (icells_get _ v _ (rowL_get (f := ev) hv))
      have z1 := hfroz v
      rw [← hge] at x1 z1
      clear hcell hfroz hge
      have HLE := least_quiet (ev v) (m : Int)
      go_upto_region 3 with fail
      refine wp_quiet_tail 15 (by kernel_rfl) (by kernel_rfl) ?_
      simp only [List.take_succ_cons, List.take_zero, List.drop_succ_cons, List.drop_zero]
      repeat (go_big_quiet_step ((go_at_call 176; exact Calls.quiet_of_same (HLE _))))
      refine wpQuiet_nil ?_
      intro _ hw'
      obtain ⟨nq, hw''⟩ := hw'
      subst hw''
      have HNE := fun (W : World) (h : Reads W L.A (pcells L.es)) => refNear_own (L.n : Int) (v : Int) L.es L.A L.c W h hc (by have := hP.len; omega) ((right_iff _ _).2 hP)
      go_upto_region 11 with fail
      have hW1 := (HW.out.go (below_drewN0 (Below.refl _ wr) nq)).setE hv (leastI (ev v) (m : Int))
      have hV1 := HV.out.addE (v := v) (l := l) (by rw [← HKM.out.1]; exact hpar)
      rw [show (fun u => if u = v then leastI (ev u) (l.length : Int) else ev u) = upd ev v (leastI (ev v) (m : Int)) from funext fun u => by unfold upd; rw [← HKM.out.1]; by_cases e : u = v <;> simp [e]] at hV1
      have ht1 : Tch L.s L.e L.o wr ((wr.drewN nq).setCell ⟨L.e, v, none⟩ (.int .i64 (leastI (ev v) (m : Int)))) := (Tch.of (below_drewN0 (Below.refl _ wr) nq)).trans (Tch.set (.inr (.inl rfl)) v _)
      generalize (wr.drewN nq).setCell ⟨L.e, v, none⟩ (.int .i64 (leastI (ev v) (m : Int))) = w1 at hW1 ht1 ⊢
      generalize upd ev v (leastI (ev v) (m : Int)) = ev1 at hW1 hV1
      have HV1 := Lib.hid hV1
      clear y0 y1 y2 y3 y4 y5 x1 z1 cp hV1 HV HW HLE
      (have y0 := blkc0 hW1.blk 0 _ rfl
       have y1 := blkc0 hW1.blk 1 _ rfl
       have y2 := blkc0 hW1.blk 2 _ rfl
       have y3 := blkc0 hW1.blk 3 _ rfl
       have y4 := blkc0 hW1.blk 4 _ rfl
       have y5 := blkc0 hW1.blk 5 _ rfl)
      have HN1 := HNE w1 hW1.rd
      have hvs : ∀ W, Below w1.heap.size w1 W → LvW L M ev1 od best W := fun W h => hW1.go h
      have hsz : L.s < w1.heap.size ∧ L.e < w1.heap.size ∧ L.o < w1.heap.size := ⟨heap_lt0 hW1.blk, (own_lt0 hW1.re L.e rfl).2, (own_lt0 hW1.ro L.o rfl).2⟩
      have hnl := natI_nrN hP v
      have hmn := fun u => mem_nrN hP v u
      obtain ⟨NL, hNL⟩ : ∃ NL, NL = nrN L.es v := ⟨_, rfl⟩
      rw [← hNL] at hnl hmn
      rw [← hnl] at HN1
      have HMN := Lib.hid hmn
      have hnll : (natI NL).length ≤ 2000000 := by
        rw [hnl]
        have := nearL_length L.es (v : Int)
        have := hP.len
        omega
      clear hNL hnl hmn HNE hW1
      go_upto_region 13 with (go_at_call 129; (refine HN1.mono ?_; rintro e w2 ⟨nA, nc, rfl, hnc, hno, hb2⟩))
      have hW2 := Lib.hid (hvs w2 hb2)
      have ht2 := Lib.hid (ht1.trans (Tch.of hb2))
      have hnA : ∀ q, nA = some q → q.block ≠ L.s ∧ q.block ≠ L.e ∧ q.block ≠ L.o := fun q hq => by
        subst hq
        have := (own_lt0 hno q.block rfl).1
        omega
      have HNA := Lib.hid hnA
      have HNR := Lib.hid (own_reads1 hno).1
      rw [natI_len] at hnll hnc ⊢
      clear hvs hno hb2 HN1 hsz hnA y0 y1 y2 y3 y4 y5 ht1
      go_loopw [8] (fun i wx => ∃ (k : Nat) (ev od : Nat → Int) (best : Int), i = .int .i64 k ∧ k ≤ NL.length ∧ Hid (LvW L M ev od best wx) ∧ Hid (LevOf L.n M (fun q' => (Sn q' ∨ q' = v :: l) ∨ ∃ (j u : Nat), j < k ∧ NL[j]? = some u ∧ Onw (adjE L.es) M (u :: v :: l) q') ev od best) ∧ Hid (Tch L.s L.e L.o w2 wx)) (fun i _ => NL.length - (intOf i).toNat)
      case atStart => exact ⟨0, ev1, od, best, rfl, Nat.zero_le _, hW2, HV1.out.congr fun q' => ⟨fun h => .inl h, fun h => h.elim id (fun ⟨j, u, hj, _⟩ => absurd hj (Nat.not_lt_zero _))⟩, Tch.refl⟩
      case round =>
        clear hW2 HV1
        obtain ⟨k, ev, od, best, rfl, hk, hW, hV, hT⟩ := hrel
        by_cases hlt : k < NL.length
        · have i1 : (k : Int) < (NL.length : Int) := by omega
          have i2 : (0 : Int) ≤ (k : Int) := by omega
          obtain ⟨u, hu⟩ : ∃ u, NL[k]? = some u := ⟨NL[k], by simp [hlt]⟩
          have hE : adjE L.es v u := (HMN.out u).2 (List.mem_of_getElem? hu)
          have hun : u < L.n := (right_gr hP).lt hE.symm
          have hrN := hT.out.reads HNR.out HNA.out
          have hrP := (ht2.out.trans hT.out).reads HR.out HPD.out
          obtain ⟨nb, no, hnA, hnb, cn⟩ := hrN.int k _ (natI_get hu)
          obtain ⟨mb, mo, hmA, hmb, cm⟩ := hW.out.rm.int v _ (mateL_get M hv)
          have hlK : (natI (v :: l).reverse).length = K := by rw [natI_len, List.length_reverse, ← HKM.out.2]
          have HIN := fun (b : Bool) (hb : decide ((u : Int) ∈ natI (v :: l).reverse) = b) (q : Nat) => (show Calls Try.prog 80 #[.slice pA K pc, .int .i64 (u : Int)] (wr.drewN q) fun e w' => e = .returned (.bool b) ∧ w' = wr.drewN q from by
            have h9 := inI (natI (v :: l).reverse) (u : Int) pA pc (wr.drewN q) (hrP.below (below_drewN0 (Below.refl _ _) q)) (by rw [hlK]; exact hpc) (by rw [hlK]; omega)
            rw [hlK, hb] at h9
            exact h9.mono fun _ _ h => ⟨h.1, h.2.symm⟩)
          (have y0 := blkc0 hW.out.blk 0 _ rfl
           have y1 := blkc0 hW.out.blk 1 _ rfl
           have y2 := blkc0 hW.out.blk 2 _ rfl
           have y3 := blkc0 hW.out.blk 3 _ rfl
           have y4 := blkc0 hW.out.blk 4 _ rfl
           have y5 := blkc0 hW.out.blk 5 _ rfl)
          rw [hnA]
          have HNN := Lib.hid hnA
          rw [hmA] at y2
          rw [HPA.out] at HIN
          have HU := Lib.hid hu
          have HE := Lib.hid hE
          clear hu hE hnA hmA hrP hrN hlK
          by_cases h1 : M v = some u
          · have e1 : (encO (M v) != (u : Int)) = false := by rw [h1]; simp [encO]
            have hno : ∀ q', ¬ Onw (adjE L.es) M (u :: v :: l) q' := fun q' hO => by
              cases onw_alt hO with
              | out _ _ _ h5 _ => exact h5 h1
              | back _ h2 _ _ => have := HKM.out.1; simp at h2; omega
            obtain ⟨ez, hez⟩ : ∃ q, q = encO (M v) := ⟨_, rfl⟩
            rw [← hez] at e1 cm
            have hV2 := hV.out.skip HU.out hno
            have HV2 := Lib.hid hV2
            clear hez h1 hno hV2
            go_upto_region 15 with fail
            go_quiet (fail)
            go_wp2_with fail
            exact ⟨⟨k + 1, ev, od, best, by go_num, by omega, hW.out.go (below_drewN0 (Below.refl _ _) nq), HV2, hT.out.trans (Tch.of (below_drewN0 (Below.refl _ _) nq))⟩, by simp [intOf]; omega⟩
          · have e1 : (encO (M v) != (u : Int)) = true := by
              have := encO_eq (o := M v) (y := u)
              simp only [bne, this, h1, decide_false, Bool.not_false]
            obtain ⟨ez, hez⟩ : ∃ q, q = encO (M v) := ⟨_, rfl⟩
            rw [← hez] at e1 cm
            by_cases h2 : u ∈ v :: l
            · have hno : ∀ q', ¬ Onw (adjE L.es) M (u :: v :: l) q' := fun q' hO => by
                cases onw_alt hO with
                | out _ _ _ _ h5 => exact h5 h2
                | back _ _ _ h5 => exact h5 h2
              have hV2 := hV.out.skip HU.out hno
              have HV2 := Lib.hid hV2
              have HI := HIN true (decide_eq_true (natI_mem.2 (List.mem_reverse.2 h2)))
              clear hez h1 hno hV2 h2 HIN
              go_upto_region 15 with fail
              go_quiet ((go_at_call 80; exact Calls.quiet_of_same (HI _)))
              go_wp2_with fail
              exact ⟨⟨k + 1, ev, od, best, by go_num, by omega, hW.out.go (below_drewN0 (Below.refl _ _) nq), HV2, hT.out.trans (Tch.of (below_drewN0 (Below.refl _ _) nq))⟩, by simp [intOf]; omega⟩
            · have hAu : Alt (adjE L.es) M (u :: v :: l) := .out HA.out (by have := HKM.out.1; simp; omega) HE.out h1 h2
              have HI := HIN false (decide_eq_false fun h => h2 (List.mem_reverse.1 (natI_mem.1 h)))
              have HAU := Lib.hid hAu
              clear hez h1 h2 HIN hAu
              go_upto_region 15 with fail
              go_quiet ((go_at_call 80; exact Calls.quiet_of_same (HI _)))
              go_upto_region 16 with fail
              have hW5 := Lib.hid (hW.out.go (below_drewN0 (Below.refl _ wr) nq))
              have hT5 := Lib.hid (hT.out.trans (Tch.of (below_drewN0 (Below.refl _ wr) nq)))
              have hrP5 := (ht2.out.trans hT5.out).reads HR.out HPD.out
              rw [HPA.out] at hrP5
              have HRP5 := Lib.hid hrP5
              have cn5 : (wr.drewN nq).cell? ⟨nb, no + k, none⟩ = some (.int .i64 (u : Int)) := cn
              have hnb5 : nb < (wr.drewN nq).heap.size := hnb
              have hnbd := HNA.out _ HNN.out
              clear hrP5 hW hT y0 y1 y2 y3 y4 y5 cm cn hmb hnb e1 HI
              generalize wr.drewN nq = w5 at *
              have hszs : L.s < w5.heap.size ∧ L.e < w5.heap.size ∧ L.o < w5.heap.size := ⟨heap_lt0 hW5.out.blk, (own_lt0 hW5.out.re L.e rfl).2, (own_lt0 hW5.out.ro L.o rfl).2⟩
              have HIH := Lib.hid (fun (W : World) (A2 : Option Addr) (c2 : Nat) (h1 : LvW L M ev od best W) (h2 : Reads W A2 (icells (natI (v :: l).reverse ++ [(u : Int)]))) (h3 : K + 1 ≤ c2) (h4 : ∀ q, A2 = some q → q.block ≠ L.s ∧ q.block ≠ L.e ∧ q.block ≠ L.o) =>
                (show Calls Try.prog 144 #[.pointer (some ⟨L.s, 0, none⟩), .slice A2 (K + 1) c2] W (OnPost L M (fun q' => (Sn q' ∨ q' = v :: l) ∨ ∃ (j u : Nat), j < k ∧ NL[j]? = some u ∧ Onw (adjE L.es) M (u :: v :: l) q') (u :: v :: l) W) from by
                  have hl2 : (u :: v :: l).length = K + 1 := by rw [List.length_cons, ← HKM.out.2]
                  rw [← hl2]
                  exact ih u (v :: l) _ ev od best A2 c2 W HAU.out (by
                    intro x hx
                    rcases List.mem_cons.1 hx with rfl | hx
                    · exact hun
                    · exact HLT.out x hx) (by rw [hl2]; have := HM0.out; have := HKM.out; have h9 : (v :: l).length = l.length + 1 := rfl; omega) h1 hV.out (by
                    rw [List.reverse_cons]
                    rwa [show natI ((v :: l).reverse ++ [u]) = natI (v :: l).reverse ++ [(u : Int)] by simp [natI]]) (by rw [hl2]; omega) h4))
              have HL := Lib.hid (show (icells (natI (v :: l).reverse)).length = K * 1 by rw [icells_length, natI_len, List.length_reverse, ← HKM.out.2, Nat.mul_one])
              have HE9 := Lib.hid (show [] ++ icells (natI (v :: l).reverse) ++ [Value.int .i64 (u : Int)] = icells (natI (v :: l).reverse ++ [(u : Int)]) by simp [icells])
              have HSZS := Lib.hid hszs
              clear hszs
              have HS : Hid (∀ W, Below w5.heap.size w5 W → W.cell? ⟨nb, no + k, none⟩ = some (.int .i64 (u : Int))) := fun W h => (h.cell (p := ⟨nb, no + k, none⟩) hnb5).trans cn5
              have HT9 := Lib.hid (fun (a b : World) (h1 : Below w5.heap.size w5 a) (h2 : Tch L.s L.e L.o a b) => ((World.cell?_of_block (w := a) (a := ⟨nb, no + k, none⟩) (h2.block nb (Nat.lt_of_lt_of_le hnb5 h1.size) hnbd.1 hnbd.2.1 hnbd.2.2)).trans ((h1.cell (p := ⟨nb, no + k, none⟩) hnb5).trans cn5) : b.cell? ⟨nb, no + k, none⟩ = some (.int .i64 (u : Int))))
              go_region_held3 (fun W => W.cell? ⟨nb, no + k, none⟩ = some (.int .i64 (u : Int))) (first | exact cn5 | exact HT9.out _ _ hb2 hT3 | exact HS.out _ hb2 | exact HS.out _ hb1 | (refine HS.out _ ?_; (repeat (first | with_reducible exact Below.refl _ _ | with_reducible assumption | with_reducible refine below_drewN0 ?_ _ | with_reducible refine Below.drew ?_ | with_reducible refine Below.alloc ?_ ?_ _ | with_reducible refine Below.setCell ?_ ?_ _ | go_size | exact Below.size (by assumption))); done))
                (first
                  | (refine step_app EI_int rfl (.const (.slice none 0 0)) (.tmp 125) rfl w5.heap.size (.slice none 0 0) 0 [] (by simp [Act.eval]) (own_nil0 _ _ _ _) (some ⟨pb, po, none⟩) K pc (icells (natI (v :: l).reverse)) (by simp [Act.eval, Act.put]) ?_ HL.out (icells_one _) ?_ ?_ ?_
                     · exact HRP5.out.below (by (repeat (first | with_reducible exact Below.refl _ _ | with_reducible assumption | with_reducible refine below_drewN0 ?_ _ | with_reducible refine Below.drew ?_ | with_reducible refine Below.alloc ?_ ?_ _ | with_reducible refine Below.setCell ?_ ?_ _ | go_size | exact Below.size (by assumption))))
                     · omega
                     · go_size
                     intro v1 w1 hown1 hg1 hat1
                     have hb1 : Below w5.heap.size w5 w1 := below_app (by (repeat (first | with_reducible exact Below.refl _ _ | with_reducible assumption | with_reducible refine below_drewN0 ?_ _ | with_reducible refine Below.drew ?_ | with_reducible refine Below.alloc ?_ ?_ _ | with_reducible refine Below.setCell ?_ ?_ _ | go_size | exact Below.size (by assumption)))) hg1 (by go_size) (by simp [Value.ownBlock]))
                  | (refine step_app EI_int rfl (.tmp 126) (.tmp 131) rfl w5.heap.size v1 (0 + K) ([] ++ icells (natI (v :: l).reverse)) (by simp [Act.eval, Act.put]) ?_ (some ⟨_, 0, none⟩) 1 1 [.int .i64 (u : Int)] (by simp [Act.eval, Act.put]; try rfl) ?_ rfl ?_ ?_ ?_ ?_
                     · first | exact hown1 | exact own_below0 hown1 (by (repeat (first | with_reducible exact Below.refl _ _ | with_reducible assumption | with_reducible refine below_drewN0 ?_ _ | with_reducible refine Below.drew ?_ | with_reducible refine Below.alloc ?_ ?_ _ | with_reducible refine Below.setCell ?_ ?_ _ | go_size | exact Below.size (by assumption))))
                     · first | exact reads_new _ [_] _ | (refine Reads.grown ?_ hg1 (by simp [Value.ownBlock]); exact reads_new _ [_] _)
                     · simp [Value.oneCell']
                     · omega
                     · first | exact hb1.size | (have := hb1.size; go_size)
                     intro v2 w2 hown2 hg2 hat2
                     have hb2 : Below w5.heap.size w5 w2 := (by first | exact below_app hb1 hg2 hb1.size (fun g hg => (own_lt0 hown1 g hg).1) | exact below_app (Below.alloc hb1 hb1.size _) hg2 (by have := hb1.size; go_size) (fun g hg => (own_lt0 hown1 g hg).1))
                     obtain ⟨A2, c2, rfl, hc2, hr2⟩ := own_reads0 hown2)
                  | (go_at_call 144
                     have hq2 : ∀ q, A2 = some q → q.block ≠ L.s ∧ q.block ≠ L.e ∧ q.block ≠ L.o := fun q hq => by
                       subst hq
                       have h9 := (own_lt0 hown2 q.block rfl).1
                       have h10 := HSZS.out
                       exact ⟨by omega, by omega, by omega⟩
                     have hi := HIH.out w2 A2 c2 (hW5.out.go hb2) (by rw [← HE9.out]; exact hr2) (by omega) hq2
                     with_reducible refine hi.mono ?_
                     rintro e w3 ⟨rfl, ev3, od3, best3, hW3, hV3, hT3⟩))
              all_goals
                go_wp2_with fail
                exact ⟨⟨k + 1, ev3, od3, best3, by go_num, by omega, hW3, hV3.more HU.out, (hT5.out.trans (Tch.of hb2)).trans hT3⟩, by simp [intOf]; omega⟩
        · have i1 : ¬ (k : Int) < (NL.length : Int) := by omega
          go_wp2_with fail
          go_end0
          refine ⟨rfl, ev, od, best, hW.out, hV.out.congr fun q' => ⟨fun h => ?_, fun h => ?_⟩, ht2.out.trans hT.out⟩
          · rcases h with (h | rfl) | ⟨j, u, hj, hu, hO⟩
            · exact .inl h
            · exact .inr (onw_self HA.out)
            · exact .inr (onw_up hO)
          · rcases h with h | h
            · exact .inl (.inl h)
            · by_cases e : q' = v :: l
              · exact .inl (.inr e)
              · obtain ⟨u, hO, hAu⟩ := onw_step h e
                have hE : adjE L.es v u := by
                  cases hAu with
                  | out _ _ hE _ _ => exact hE
                  | back _ hp _ _ =>
                    have := HKM.out.1
                    simp at hp
                    omega
                obtain ⟨j, hj⟩ := List.getElem?_of_mem ((HMN.out u).1 hE)
                exact .inr ⟨j, u, by have := (List.getElem?_eq_some_iff.1 hj).1; omega, hj, hO⟩
    · have p1 : ¬ (m : Int).tmod 2 = 0 := by rw [Int.tmod_eq_emod_of_nonneg (by omega)]; omega
      have p2 : ((m : Int).tmod 2 == 0) = false := beq_eq_false_iff_ne.2 p1
      have p4 : (m : Int).tmod 2 = 1 := by rw [Int.tmod_eq_emod_of_nonneg (by omega)]; omega
      have p3 : ((m : Int).tmod 2 == 1) = true := beq_iff_eq.2 p4
      obtain ⟨g', c', hg', _, _, _, hcell, hfroz⟩ := own_block HW.out.ro (by omega)
      simp only [Value.slice.injEq, Option.some.injEq, Addr.mk.injEq, and_true, true_and] at hg'
      obtain ⟨hge, _⟩ := hg'
      have x1 := hcell v _ (icells_get _ v _ (rowL_get (f := od) hv))
      have z1 := hfroz v
      rw [← hge] at x1 z1
      clear hcell hfroz hge
      have HLE := least_quiet (od v) (m : Int)
      go_upto_region 4 with fail
      refine wp_quiet_tail 15 (by kernel_rfl) (by kernel_rfl) ?_
      simp only [List.take_succ_cons, List.take_zero, List.drop_succ_cons, List.drop_zero]
      repeat (go_big_quiet_step ((go_at_call 176; exact Calls.quiet_of_same (HLE _))))
      refine wpQuiet_nil ?_
      intro _ hw'
      obtain ⟨nq, hw''⟩ := hw'
      subst hw''
      go_upto_region 5 with fail
      have hW1 := (HW.out.go (below_drewN0 (Below.refl _ wr) nq)).setO hv (leastI (od v) (m : Int))
      have hV1 := HV.out.addO (v := v) (l := l) (by rw [← HKM.out.1]; omega)
      rw [show (fun u => if u = v then leastI (od u) (l.length : Int) else od u) = upd od v (leastI (od v) (m : Int)) from funext fun u => by unfold upd; rw [← HKM.out.1]; by_cases e : u = v <;> simp [e], ← HKM.out.1] at hV1
      have ht1 : Tch L.s L.e L.o wr ((wr.drewN nq).setCell ⟨L.o, v, none⟩ (.int .i64 (leastI (od v) (m : Int)))) := (Tch.of (below_drewN0 (Below.refl _ wr) nq)).trans (Tch.set (.inr (.inr rfl)) v _)
      generalize (wr.drewN nq).setCell ⟨L.o, v, none⟩ (.int .i64 (leastI (od v) (m : Int))) = w1 at hW1 ht1 ⊢
      generalize upd od v (leastI (od v) (m : Int)) = od1 at hW1 hV1
      clear y0 y1 y2 y3 y4 y5 x1 z1 cp HV HW HLE
      (have y0 := blkc0 hW1.blk 0 _ rfl
       have y1 := blkc0 hW1.blk 1 _ rfl
       have y2 := blkc0 hW1.blk 2 _ rfl
       have y3 := blkc0 hW1.blk 3 _ rfl
       have y4 := blkc0 hW1.blk 4 _ rfl
       have y5 := blkc0 hW1.blk 5 _ rfl)
      obtain ⟨mb, mo, hmA, hmb, cm⟩ := hW1.rm.int v _ (mateL_get M hv)
      rw [hmA] at y2
      have z5 : w1.frozen? ⟨L.s, 5, none⟩ = false := blkf0 hW1.blk 5
      cases hMv : M v with
      | none =>
        rw [hMv] at cm
        have cm' : w1.cell? ⟨mb, mo + v, none⟩ = some (.int .i64 (-1)) := cm
        rw [if_pos hMv] at hV1
        have HLE := fun W => least_any best (m : Int) W
        have hW2 := Lib.hid (hW1.setB (leastI best (m : Int)))
        have hB := heap_lt0 hW1.blk
        have ym : (w1.setCell ⟨L.s, 5, none⟩ (.int .i64 (leastI best (m : Int)))).cell? ⟨mb, mo + v, none⟩ = some (.int .i64 (-1)) :=
          (World.cell?_of_block (w := w1) (a := ⟨mb, mo + v, none⟩) (Below.heap_setCell _ _ _ _ (by have := (hW1.dM _ hmA).1; exact this))).trans cm'
        have y2' := (blkc0 hW2.out.blk 2 _ rfl)
        rw [hmA] at y2'
        have hV2 := Lib.hid hV1
        have HT1 := Lib.hid ht1
        clear cm hW1 hV1 ht1 hB
        go_wp2_with (go_at_call 176; refine (HLE _).mono ?_; rintro e w2 ⟨rfl, rfl⟩)
        first | go_end0 | (refine bodyPost_ret (results_none rfl _ _ _) rfl ?_)
        refine ⟨rfl, ev, od1, leastI best (m : Int), hW2.out, hV2.out.congr fun q' => or_congr Iff.rfl ⟨fun h => by rw [h]; exact onw_self HA.out, fun h => ?_⟩, HT1.out.trans (Tch.set (.inl rfl) 5 _)⟩
        by_cases e : q' = v :: l
        · exact e
        · obtain ⟨u, hO, hAu⟩ := onw_step h e
          cases hAu with
          | out _ h2 _ _ _ => have := HKM.out.1; simp at h2; omega
          | back _ _ h2 _ => rw [hMv] at h2; cases h2
      | some u =>
        rw [hMv] at cm
        have cm' : w1.cell? ⟨mb, mo + v, none⟩ = some (.int .i64 (u : Int)) := cm
        rw [if_neg (by rw [hMv]; simp)] at hV1
        have hun : u < L.n := hM.lt (hM.symm hMv)
        have u1 : ¬ (u : Int) < 0 := by omega
        have u2 : decide ((0 : Int) ≤ (u : Int)) = true := decide_eq_true (by omega)
        have u3 : (0 : Int) ≤ (u : Int) := by omega
        have hrP := ht1.reads HR.out HPD.out
        have hlK : (natI (v :: l).reverse).length = K := by rw [natI_len, List.length_reverse, ← HKM.out.2]
        have HIN := fun (b : Bool) (hb : decide ((u : Int) ∈ natI (v :: l).reverse) = b) => (show Calls Try.prog 80 #[.slice pA K pc, .int .i64 (u : Int)] w1 fun e w' => e = .returned (.bool b) ∧ w1 = w' from by
          have h9 := inI (natI (v :: l).reverse) (u : Int) pA pc w1 hrP (by rw [hlK]; exact hpc) (by rw [hlK]; omega)
          rwa [hlK, hb] at h9)
        rw [HPA.out] at HIN hrP
        have HW1 := Lib.hid hW1
        have HV1 := Lib.hid hV1
        have HT1 := Lib.hid ht1
        have HRP5 := Lib.hid hrP
        have HMV := Lib.hid hMv
        by_cases h2 : u ∈ v :: l
        · have HI := HIN true (decide_eq_true (natI_mem.2 (List.mem_reverse.2 h2)))
          have H2 := Lib.hid h2
          clear cm hW1 hV1 ht1 HIN hrP hMv h2 hlK
          go_wp2_with (go_at_call 80; refine HI.mono ?_; rintro e w2 ⟨rfl, rfl⟩)
          first | go_end0 | (refine bodyPost_ret (results_none rfl _ _ _) rfl ?_)
          refine ⟨rfl, ev, od1, best, HW1.out, HV1.out.congr fun q' => or_congr Iff.rfl ⟨fun h => by rw [h]; exact onw_self HA.out, fun h => ?_⟩, HT1.out⟩
          by_cases e : q' = v :: l
          · exact e
          · obtain ⟨u', hO, hAu⟩ := onw_step h e
            cases hAu with
            | out _ h2 _ _ _ => have := HKM.out.1; simp at h2; omega
            | back _ _ h3 h4 => rw [HMV.out] at h3; cases h3; exact absurd H2.out h4
        · have HI := HIN false (decide_eq_false fun h => h2 (List.mem_reverse.1 (natI_mem.1 h)))
          have hAu : Alt (adjE L.es) M (u :: v :: l) := .back HA.out (by have := HKM.out.1; simp; omega) hMv h2
          have HAU := Lib.hid hAu
          clear cm hW1 hV1 ht1 HIN hrP hMv h2 hlK hAu
          go_upto_region 10 with (go_at_call 80; refine HI.mono ?_; rintro e w2 ⟨rfl, rfl⟩)
          have hszs : L.s < w1.heap.size ∧ L.e < w1.heap.size ∧ L.o < w1.heap.size := ⟨heap_lt0 HW1.out.blk, (own_lt0 HW1.out.re L.e rfl).2, (own_lt0 HW1.out.ro L.o rfl).2⟩
          have hlP : (natI (v :: l).reverse).length = K := by rw [natI_len, List.length_reverse, ← HKM.out.2]
          have HIH := Lib.hid (fun (W : World) (A2 : Option Addr) (c2 : Nat) (h1 : LvW L M ev od1 best W) (h2 : Reads W A2 (icells (natI (v :: l).reverse ++ [(u : Int)]))) (h3 : K + 1 ≤ c2) (h4 : ∀ q, A2 = some q → q.block ≠ L.s ∧ q.block ≠ L.e ∧ q.block ≠ L.o) =>
            (show Calls Try.prog 144 #[.pointer (some ⟨L.s, 0, none⟩), .slice A2 (K + 1) c2] W (OnPost L M (fun q' => Sn q' ∨ q' = v :: l) (u :: v :: l) W) from by
              have hl2 : (u :: v :: l).length = K + 1 := by rw [List.length_cons, ← HKM.out.2]
              rw [← hl2]
              exact ih u (v :: l) _ ev od1 best A2 c2 W HAU.out (by
                intro x hx
                rcases List.mem_cons.1 hx with rfl | hx
                · exact hun
                · exact HLT.out x hx) (by rw [hl2]; have := HM0.out; have := HKM.out; have h9 : (v :: l).length = l.length + 1 := rfl; omega) h1 HV1.out (by
                rw [List.reverse_cons]
                rwa [show natI ((v :: l).reverse ++ [u]) = natI (v :: l).reverse ++ [(u : Int)] by simp [natI]]) (by rw [hl2]; omega) h4))
          have HLP := Lib.hid hlP
          have HSZS := Lib.hid hszs
          have hO1 := OwnI.nil w1
          clear hszs hlP y0 y1 y2 y3 y4 y5 cm'
          go_wp2_with (first
            | (at_builtin; ((refine wpList_appI EI_int rfl (.const (.slice none 0 0)) (.tmp 85) rfl hO1 (by simp [Act.eval]) (natI (v :: l).reverse) (some ⟨pb, po, none⟩) pc K HLP.out (by simp [Act.eval, Act.put]) HRP5.out (by simp; omega) ?_); intro A5 c5 w5 ho5 _ _; have hs5 : (([] : List Int) ++ natI (v :: l).reverse).length ≤ 10000000 := (by rw [List.nil_append, HLP.out]; omega); rw [List.length_nil, Nat.zero_add]))
            | (at_builtin; ((refine wpList_snocI EI_int rfl (.tmp 86) (.tmp 88) rfl ho5 (by rw [List.nil_append, HLP.out]; simp [Act.eval, Act.put]) (u : Int) w5.heap.size rfl (by simp [Act.eval, Act.put]; try rfl) hs5 ?_); intro A6 c6 w6 ho6 _ _; have ho6' := ho6.reads; have hb6 := ho6.2; have hq6 : (∀ q, A6 = some q → q.block ≠ L.s ∧ q.block ≠ L.e ∧ q.block ≠ L.o) := (fun q hq => by subst hq; have h9 := (own_lt0 ho6.1 q.block rfl).1; have h10 := HSZS.out; exact ⟨by omega, by omega, by omega⟩); rw [List.nil_append, HLP.out]))
            | (go_at_call 144
               have hr6 : Reads w6 A6 (icells (natI (v :: l).reverse ++ [(u : Int)])) := by simpa using ho6'.1
               have hc6 : K + 1 ≤ c6 := by have h9 := ho6'.2.1; rw [List.nil_append, List.length_append, HLP.out] at h9; simpa using h9
               have hi := HIH.out w6 A6 c6 (HW1.out.go hb6) hr6 hc6 hq6
               with_reducible refine hi.mono ?_
               rintro e w3 ⟨rfl, ev3, od3, best3, hW3, hV3, hT3⟩))
          first | go_end0 | (refine bodyPost_ret (results_none rfl _ _ _) rfl ?_)
          refine ⟨rfl, ev3, od3, best3, hW3, hV3.congr fun q' => ⟨fun h => ?_, fun h => ?_⟩, (HT1.out.trans (Tch.of hb6)).trans hT3⟩
          · rcases h with (h | h) | h
            · exact .inl h
            · rw [h]; exact .inr (onw_self HA.out)
            · exact .inr (onw_up h)
          · rcases h with h | h
            · exact .inl (.inl h)
            · by_cases e : q' = v :: l
              · exact .inl (.inr e)
              · obtain ⟨u', hO, hAu⟩ := onw_step h e
                cases hAu with
                | out _ h2 _ _ _ => have := HKM.out.1; simp at h2; omega
                | back _ _ h3 _ => rw [HMV.out] at h3; cases h3; exact .inr hO
end Go.Proofs.Ytgddfmfiiodgbaa
