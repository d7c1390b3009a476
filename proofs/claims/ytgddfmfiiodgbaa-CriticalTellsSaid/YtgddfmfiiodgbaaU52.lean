/- CriticalTells, walked. -/
import Derived.Test.YtgddfmfiiodgbaaU51
import Derived.Test.YtgddfmfiiodgbaaU50
import Derived.Test.YtgddfmfiiodgbaaU45
namespace Go.Proofs.Ytgddfmfiiodgbaa
open Go Go.RowKit
set_option maxRecDepth 100000
set_option linter.unusedVariables false
set_option linter.unusedSimpArgs false

/-- What Missing answers, in the three cases. -/
def TellC (n : Nat) (es : List (Int × Int)) (v : Int) (mA : Option Addr) (ml mc : Nat) (err : Int) (w' : World) : Prop :=
  ((v < 0 ∨ (n : Int) ≤ v) ∧ ml = 0 ∧ err = 4) ∨
  (∃ u : Nat, v = (u : Int) ∧ u < n ∧ ¬ Lacks n (adjE es) u ∧ ml = 0 ∧ err = 7) ∨
  ∃ (u : Nat) (M : Nat → Option Nat), v = (u : Int) ∧ u < n ∧ IsMat n (adjE es) M ∧ freeL n M = [u] ∧ Reads w' mA (icells (mateL n M)) ∧ n = ml ∧ n = mc ∧ err = 0

theorem tell_any {n : Nat} {es : List (Int × Int)} (hP : RightP n es) (v : Int) (A : Option Addr) (c : Nat) (w : World) (hr : Reads w A (pcells es)) (hc : es.length ≤ c) :
    Calls Try.prog 53 #[.agg #[.int .i64 (n : Int), .slice A es.length c], .int .i64 v] w fun e w' => ∃ mA ml mc err, e = .returned (.tuple #[.slice mA ml mc, .int .i64 err]) ∧ Hid (TellC n es v mA ml mc err w') ∧ Below w.heap.size w w' := by
  by_cases h : v < 0 ∨ (n : Int) ≤ v
  · have he : misErr n es v = 4 := by
      unfold misErr
      rw [if_neg (by rw [(right_iff _ _).2 hP]; simp), if_pos h]
    refine (missing_bad n v es A c w hr hc (by have := hP.len; omega) (by rw [he]; omega)).mono ?_
    rintro e w' ⟨h1, hb⟩
    rw [he] at h1
    exact ⟨_, _, _, _, h1, .inl ⟨h, rfl, rfl⟩, hb⟩
  · obtain ⟨u, rfl⟩ : ∃ u : Nat, v = (u : Int) := ⟨v.toNat, by omega⟩
    refine (missing_any hP (by omega) A c w hr hc).mono ?_
    rintro e w' (⟨M, B, h1, h2, h3, h4, h5, h6, hb⟩ | ⟨h1, h2, hb⟩)
    · refine ⟨_, _, _, _, h1, .inr (.inr ⟨u, M, rfl, by omega, h2, ?_, h5.reads, rfl, rfl, rfl⟩), hb⟩
      have hmem : ∀ x, x ∈ freeL n M ↔ x = u := fun x => by
        rw [mem_freeL]
        constructor
        · rintro ⟨a, b⟩
          exact Classical.byContradiction fun hne => h4 x a hne b
        · rintro rfl; exact ⟨by omega, h3⟩
      have hnd := nodup_freeL n M
      match hl : freeL n M with
      | [] => have := (hmem u).2 rfl; rw [hl] at this; simp at this
      | [x] => have := (hmem x).1 (by rw [hl]; simp); rw [this]
      | x :: y :: l =>
        have h7 := (hmem x).1 (by rw [hl]; simp)
        have h8 := (hmem y).1 (by rw [hl]; simp)
        rw [hl, h7, h8] at hnd
        simp at hnd
    · exact ⟨_, _, _, _, h2, .inr (.inl ⟨u, rfl, by omega, h1, rfl, rfl⟩), hb⟩

set_option maxHeartbeats 2000000 in
theorem ctells_any (n0 v : Int) (ends : List Int) (A1 : Option Addr) (c1 : Nat) (w : World) (hn1 : -9223372036854775808 ≤ n0) (hn2 : n0 ≤ 9223372036854775807)
    (hr1 : Reads w A1 (icells ends)) (hc1 : ends.length ≤ c1) (hl1 : ends.length ≤ 4611686018427387903) :
    Calls Try.prog 13 #[.int .i64 n0, .slice A1 ends.length c1, .int .i64 v] w fun e w' => e = .returned (.bool true) ∧ Below w.heap.size w w' := by
  have HS1 := small_any n0 10 30 ends A1 c1 w (by omega) (by omega) (by omega) (by omega) hn1 hn2 hr1 hc1 hl1
  clear hr1
  go_enter Try.func13, Try.ntmps13
  go_upto_region 2 with (go_at_call 31; (with_reducible refine HS1.mono ?_); rintro e w1 ⟨n, es, A, c, rfl, hP, hn10, hes, hc, hrd, hb1⟩)
  obtain ⟨k, rfl⟩ : ∃ k : Nat, n = (k : Int) := ⟨n.toNat, by have := hP.n0; omega⟩
  have hG := GB1.new hb1 hrd hc (n := (k : Int))
  generalize w1.alloc (Obj.cells #[Value.int IntKind.i64 (k : Int), Value.slice A es.length c] 25) = w2 at hG ⊢
  obtain ⟨bg, hbg⟩ : ∃ b, b = w1.heap.size := ⟨_, rfl⟩
  rw [← hbg] at hG ⊢
  clear hbg HS1 hb1 hrd
  have HT := tell_any hP v A c w2 hG.rd hc
  have x0 := hG.box.c0
  have x1 := hG.box.c1
  have HG0 := Lib.hid hG
  have HP := Lib.hid hP
  clear hG hP
  go_upto_region 3 with (go_at_call 53; (refine HT.mono ?_); rintro e w3 ⟨mA, ml, mc, err, rfl, hD, hb3⟩)
  have HG := Lib.hid (HG0.out.go hb3)
  have HIS := fun (W : World) (h : Below w3.heap.size w3 W) => is_any (k : Int) es A c W (HG.out.go h).rd hc (by omega)
  have HCR := fun (W : World) (h : Below w3.heap.size w3 W) => refcrit_any HP.out (by omega) A c W (HG.out.go h).rd hc
  generalize critB k es = cb at HIS HCR
  clear HT x0 x1 HG0 hb3
  have q0 : ∀ x : WB w3, x.w.cell? ⟨bg, 0, none⟩ = some (.int .i64 (k : Int)) := fun x => (HG.out.go x.b).box.c0
  have q1 : ∀ x : WB w3, x.w.cell? ⟨bg, 1, none⟩ = some (.slice A es.length c) := fun x => (HG.out.go x.b).box.c1
  go_upto_region 3 with fail
  (refine wp_region_below w3 (by kernel_rfl) (by kernel_rfl) (Below.refl _ _) ?_)
  repeat (go_big_quiet_step ((first | (go_at_call 54; exact Calls.wb_of fun W _ => awake15 W) | (go_at_call 55; exact Calls.wb_of HIS) | (go_at_call 56; exact Calls.wb_of HCR))))
  (refine wpQuiet_nil ?_
   intro _ hw'
   obtain ⟨xq, hw''⟩ := hw'
   have hbq := xq.b
   subst hw''
   generalize xq.w = wq at hbq ⊢)
  clear q0 q1
  have hG5 := HG.out.go hbq
  have x0 := hG5.box.c0
  have x1 := hG5.box.c1
  have hbw := hG5.box.below
  have HG5 := Lib.hid hG5
  clear hG5 HIS HCR HG
  rcases hD.out with ⟨hv, rfl, rfl⟩ | ⟨u, rfl, hu, hL, rfl, rfl⟩ | ⟨u, M, rfl, hu, hM, hF, hR, rfl, rfl, rfl⟩
  · clear hD
    have hcase : (v < 0) ∨ (¬ v < 0 ∧ (k : Int) ≤ v) := by omega
    clear hv
    rcases hcase with h1 | ⟨h1, h2⟩
    · have d1 : decide (v < 0) = true := decide_eq_true h1
      go_wp2_with fail
      go_ret
      exact ⟨by simp, hbw⟩
    · have d1 : decide (v < 0) = false := decide_eq_false h1
      have d2 : decide (v < (k : Int)) = false := decide_eq_false (by omega)
      have d3 : decide ((k : Int) ≤ v) = true := decide_eq_true h2
      go_wp2_with fail
      go_ret
      exact ⟨by simp, hbw⟩
  · have d1 : decide ((u : Int) < 0) = false := decide_eq_false (by omega)
    have d2 : decide ((u : Int) < (k : Int)) = true := decide_eq_true (by omega)
    have d3 : decide ((k : Int) ≤ (u : Int)) = false := decide_eq_false (by omega)
    have HM := misses_any HP.out (by omega) hu A c wq HG5.out.rd hc
    have hl : lacksB k es u = false := by
      cases e : lacksB k es u with
      | false => rfl
      | true => exact absurd (lacksB_iff.1 e) hL
    rw [hl] at HM
    clear hD hL hl
    go_wp2_with (go_at_call 57; (refine HM.mono ?_); rintro e w5 ⟨rfl, hb5⟩)
    go_ret
    exact ⟨by simp, below_on hbw hb5⟩
  · have d1 : decide ((u : Int) < 0) = false := decide_eq_false (by omega)
    have d2 : decide ((u : Int) < (k : Int)) = true := decide_eq_true (by omega)
    have d3 : decide ((k : Int) ≤ (u : Int)) = false := decide_eq_false (by omega)
    have HM := misses_any HP.out (by omega) hu A c wq HG5.out.rd hc
    have hl : lacksB k es u = true := lacksB_iff.2 ((lacks_iff hu).2 ⟨M, hM, hF⟩)
    rw [hl] at HM
    have HF := Lib.hid hF
    have HR := Lib.hid (hR.below hbq)
    have HMM := Lib.hid hM
    clear hD hl hF hR hM
    go_upto_region 9 with (go_at_call 57; (refine HM.mono ?_); rintro e w5 ⟨rfl, hb5⟩)
    have hG6 := HG5.out.go hb5
    have HFR := mfree_any mA k w5 (HR.out.below hb5) (by omega : k ≤ 1000000)
    rw [HF.out] at HFR
    have HG6 := Lib.hid hG6
    have HR6 := Lib.hid (HR.out.below hb5)
    clear x0 x1 hG6 HM hb5 HR
    go_upto_region 10 with (go_at_call 49; (refine HFR.mono ?_); rintro e w6 ⟨v, rfl, ho⟩)
    obtain ⟨lA, lc, rfl, hlc, hlr⟩ := ho.slice
    have hb6 := ho.2
    obtain ⟨pb, po, hlA, hpb, e1⟩ := hlr.int 0 (u : Int) rfl
    subst hlA
    have hG7 := HG6.out.go hb6
    have HRT := rmright_mat A mA c k w6 hG7.rd hc HP.out HMM.out (HR6.out.below hb6)
    have x0 := hG7.box.c0
    have x1 := hG7.box.c1
    have hbw7 := hG7.box.below
    rw [Nat.add_zero] at e1
    have hone : (natI [u]).length = 1 := rfl
    rw [hone]
    have hu0 : ((u : Int) == (u : Int)) = true := by simp
    clear HFR ho hlr hone
    go_wp2_with (go_at_call 34; (refine HRT.mono ?_); rintro e w8 ⟨rfl, hb8⟩; have e8 := (hb8.cell (p := ⟨pb, po, none⟩) hpb).trans e1)
    go_ret
    exact ⟨by simp, below_on hbw7 hb8⟩
end Go.Proofs.Ytgddfmfiiodgbaa
