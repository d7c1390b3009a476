/- Walks of a forest's Base, Even, Gone, above. -/
import Derived.Test.YtgddfmfiiodgbaaU09
import Derived.Test.YtgddfmfiiodgbaaU06
namespace Go.Proofs.Ytgddfmfiiodgbaa
open Go Go.RowKit
set_option maxRecDepth 100000
set_option linter.unusedVariables false
set_option linter.unusedSimpArgs false

theorem UpOk.cls_lt {n : Nat} {u cls : Nat → Nat} (h : UpOk n u cls) {v : Nat} (hv : v < n) : cls v < n := by
  obtain ⟨h, hh⟩ := h; exact (hh v hv).1
theorem FW.cls_lt {w0 w : World} {n : Nat} {M : Nat → Option Nat} {L : FLay} {S : FoS} (h : FW w0 w n M L S) {v : Nat} (hv : v < n) : S.cls v < n := by
  obtain ⟨u, mk, hM⟩ := h; exact hM.up.cls_lt hv
theorem FW.bs_lt {w0 w : World} {n : Nat} {M : Nat → Option Nat} {L : FLay} {S : FoS} (h : FW w0 w n M L S) {v : Nat} (hv : v < n) : S.bs v < n := by
  obtain ⟨u, mk, hM⟩ := h; exact hM.bd.base _ (hM.up.cls_lt hv)
theorem FW.fc {w0 w : World} {n : Nat} {M : Nat → Option Nat} {L : FLay} {S : FoS} (h : FW w0 w n M L S) (i : Nat) (x : Value) (hx : (L.cells n S.turn S.wait.length S.looks)[i]? = some x) : w.cell? ⟨L.f, i, none⟩ = some x := by
  obtain ⟨u, mk, hM⟩ := h; exact hM.fc i x hx
theorem FW.mcell {w0 w : World} {n : Nat} {M : Nat → Option Nat} {L : FLay} {S : FoS} (h : FW w0 w n M L S) {v : Nat} (hv : v < n) : ∃ b o, L.mA = some ⟨b, o, none⟩ ∧ w.cell? ⟨b, o + v, none⟩ = some (.int .i64 (encO (M v))) := by
  obtain ⟨u, mk, hM⟩ := h; exact hM.mcell hv
theorem FW.c2 {w0 w : World} {n : Nat} {M : Nat → Option Nat} {L : FLay} {S : FoS} (h : FW w0 w n M L S) {v : Nat} (hv : v < n) : w.cell? ⟨L.b 2, v, none⟩ = some (.int .i64 (S.label v)) := by
  obtain ⟨u, mk, hM⟩ := h; exact hM.rc 2 (by omega) (by omega) v _ (rowOf_get _ hv)
theorem FW.c3 {w0 w : World} {n : Nat} {M : Nat → Option Nat} {L : FLay} {S : FoS} (h : FW w0 w n M L S) {v : Nat} (hv : v < n) : w.cell? ⟨L.b 3, v, none⟩ = some (.bool (S.outer v)) := by
  obtain ⟨u, mk, hM⟩ := h; exact hM.rc 3 (by omega) (by omega) v _ (rowOf_get _ hv)
theorem FW.c4 {w0 w : World} {n : Nat} {M : Nat → Option Nat} {L : FLay} {S : FoS} (h : FW w0 w n M L S) {v : Nat} (hv : v < n) : w.cell? ⟨L.b 4, v, none⟩ = some (.int .i64 (S.even v)) := by
  obtain ⟨u, mk, hM⟩ := h; exact hM.rc 4 (by omega) (by omega) v _ (rowOf_get _ hv)
theorem FW.c5 {w0 w : World} {n : Nat} {M : Nat → Option Nat} {L : FLay} {S : FoS} (h : FW w0 w n M L S) {v : Nat} (hv : v < n) : w.cell? ⟨L.b 5, v, none⟩ = some (.int .i64 (S.odd v)) := by
  obtain ⟨u, mk, hM⟩ := h; exact hM.rc 5 (by omega) (by omega) v _ (rowOf_get _ hv)
theorem FW.c6 {w0 w : World} {n : Nat} {M : Nat → Option Nat} {L : FLay} {S : FoS} (h : FW w0 w n M L S) {v : Nat} (hv : v < n) : w.cell? ⟨L.b 6, v, none⟩ = some (.int .i64 (S.pred v)) := by
  obtain ⟨u, mk, hM⟩ := h; exact hM.rc 6 (by omega) (by omega) v _ (rowOf_get _ hv)
theorem FW.c7 {w0 w : World} {n : Nat} {M : Nat → Option Nat} {L : FLay} {S : FoS} (h : FW w0 w n M L S) {v : Nat} (hv : v < n) : w.cell? ⟨L.b 7, v, none⟩ = some (.int .i64 (encO (S.root v))) := by
  obtain ⟨u, mk, hM⟩ := h; exact hM.rc 7 (by omega) (by omega) v _ (rowOf_get _ hv)
theorem FW.c9 {w0 w : World} {n : Nat} {M : Nat → Option Nat} {L : FLay} {S : FoS} (h : FW w0 w n M L S) {v : Nat} (hv : v < n) : w.cell? ⟨L.b 9, v, none⟩ = some (.bool (S.gone v)) := by
  obtain ⟨u, mk, hM⟩ := h; exact hM.rc 9 (by omega) (by omega) v _ (rowOf_get _ hv)
theorem FW.c11 {w0 w : World} {n : Nat} {M : Nat → Option Nat} {L : FLay} {S : FoS} (h : FW w0 w n M L S) {v : Nat} (hv : v < n) : w.cell? ⟨L.b 11, v, none⟩ = some (.int .i64 (S.base v)) := by
  obtain ⟨u, mk, hM⟩ := h; exact hM.rc 11 (by omega) (by omega) v _ (rowOf_get _ hv)
theorem FW.bd {w0 w : World} {n : Nat} {M : Nat → Option Nat} {L : FLay} {S : FoS} (h : FW w0 w n M L S) : FBd n S := by
  obtain ⟨u, mk, hM⟩ := h; exact hM.bd
theorem FW.mlt {w0 w : World} {n : Nat} {M : Nat → Option Nat} {L : FLay} {S : FoS} (h : FW w0 w n M L S) {v x : Nat} (hv : v < n) (hx : M v = some x) : x < n := by
  obtain ⟨u, mk, hM⟩ := h; exact hM.mlt v x hv hx
theorem FW.nn {w0 w : World} {n : Nat} {M : Nat → Option Nat} {L : FLay} {S : FoS} (h : FW w0 w n M L S) : n ≤ 1000000 := by
  obtain ⟨u, mk, hM⟩ := h; exact hM.nn
theorem FW.drewN {w0 w : World} {n : Nat} {M : Nat → Option Nat} {L : FLay} {S : FoS} (h : FW w0 w n M L S) (k : Nat) : FW w0 (w.drewN k) n M L S := by
  obtain ⟨u, mk, hM⟩ := h; exact ⟨u, mk, hM.drewN k⟩
theorem FWk.drewN {w0 w : World} {n : Nat} {M : Nat → Option Nat} {L : FLay} {S : FoS} {mk : Nat → Nat} (h : FWk w0 w n M L S mk) (k : Nat) : FWk w0 (w.drewN k) n M L S mk := by
  obtain ⟨u, hM⟩ := h; exact ⟨u, hM.drewN k⟩
theorem FWk.drew {w0 w : World} {n : Nat} {M : Nat → Option Nat} {L : FLay} {S : FoS} {mk : Nat → Nat} (h : FWk w0 w n M L S mk) : FWk w0 w.drew n M L S mk := h.drewN 1
theorem FW.drew {w0 w : World} {n : Nat} {M : Nat → Option Nat} {L : FLay} {S : FoS} (h : FW w0 w n M L S) : FW w0 w.drew n M L S := h.drewN 1
theorem FStep.drew {L L' : FLay} {a b : World} (h : FStep L L' a b) : FStep L L' a b.drew := h.drewN 1

set_option maxHeartbeats 1000000 in
theorem base_k {w0 w : World} {n : Nat} {M : Nat → Option Nat} {L : FLay} {S : FoS} {mk : Nat → Nat} (hF : FWk w0 w n M L S mk) {v : Nat} (hv : v < n) :
    Calls Try.prog 138 #[.pointer (some ⟨L.f, 0, none⟩), .int .i64 (v : Int)] w (FValK w0 n M L S mk (.int .i64 (S.bs v : Int)) w) := by
  have f11 := hF.fw.fc 11 _ rfl
  have hc := hF.fw.cls_lt hv
  have c11 := hF.fw.c11 hc
  have HFI := fun W (h : FWk w0 W n M L S mk) => first_k h hv
  dsimp only [FLay.rv] at f11
  have hbs : S.bs v = S.base (S.cls v) := rfl
  rw [hbs]
  obtain ⟨x, hx⟩ : ∃ x, x = S.cls v := ⟨_, rfl⟩
  rw [← hx] at hc c11 HFI ⊢
  have HX := Lib.hid hx
  clear hx hbs
  have i1 : (0 : Int) ≤ (x : Int) := by omega
  have i2 : (x : Int) < (n : Int) := by omega
  go_enter Try.func138, Try.ntmps138
  go_wp2_with fail
  go_region_held3 (fun w' => w'.cell? ⟨L.f, 11, none⟩ = some (.slice (some ⟨L.b 11, 0, none⟩) n n) ∧ w'.cell? ⟨L.b 11, x, none⟩ = some (.int .i64 (S.base x : Int))) (first | exact ⟨f11', c11'⟩ | exact ⟨f11, c11⟩ | (simp [go_sem, *]; done))
    (first | (go_at_call 170; refine (HFI _ hF.drew).mono ?_; rintro e w1 ⟨rfl, hF1, hS1⟩; have f11' := hF1.fw.fc 11 _ rfl; dsimp only [FLay.rv] at f11'; have c11' := hF1.fw.c11 hc))
  all_goals
    go_wp2_with fail
    go_ret
    exact ⟨rfl, hF1, (FStep.refl _ _).drew.trans hS1⟩

theorem base_any {w0 w : World} {n : Nat} {M : Nat → Option Nat} {L : FLay} {S : FoS} (hF : FW w0 w n M L S) {v : Nat} (hv : v < n) :
    Calls Try.prog 138 #[.pointer (some ⟨L.f, 0, none⟩), .int .i64 (v : Int)] w (FVal w0 n M L S (.int .i64 (S.bs v : Int)) w) := by
  obtain ⟨u, mk, hM⟩ := hF
  exact (base_k (mk := mk) ⟨u, hM⟩ hv).mono fun e w' ⟨h1, h2, h3⟩ => ⟨h1, h2.fw, h3⟩

/-- Is a vertex's tree gone? -/
def FoS.goneB (S : FoS) (v : Nat) : Bool := match S.root v with
  | none => false
  | some r => S.gone r

theorem gone_any {w0 w : World} {n : Nat} {M : Nat → Option Nat} {L : FLay} {S : FoS} (hF : FW w0 w n M L S) {v : Nat} (hv : v < n) :
    Calls Try.prog 171 #[.pointer (some ⟨L.f, 0, none⟩), .int .i64 (v : Int)] w fun e w' => e = .returned (.bool (S.goneB v)) ∧ ∃ k, w' = w.drewN k := by
  have f7 := hF.fc 7 _ rfl
  have f9 := hF.fc 9 _ rfl
  have c7 := hF.c7 hv
  dsimp only [FLay.rv] at f7 f9
  have i1 : (0 : Int) ≤ (v : Int) := by omega
  have i2 : (v : Int) < (n : Int) := by omega
  cases hr : S.root v with
  | none =>
    have hg : S.goneB v = false := by unfold FoS.goneB; rw [hr]
    rw [hg]
    rw [hr] at c7
    simp only [encO] at c7
    clear hr hg
    go_enter Try.func171, Try.ntmps171
    go_wp2_with fail
    go_quiet (fail)
    go_wp2_with fail
    go_ret
    exact ⟨rfl, _, rfl⟩
  | some r =>
    have hg : S.goneB v = S.gone r := by unfold FoS.goneB; rw [hr]
    have hrn := hF.bd.root v r hv hr
    have c9 := hF.c9 hrn
    rw [hg]
    rw [hr] at c7
    simp only [encO] at c7
    have i3 : (0 : Int) ≤ (r : Int) := by omega
    have i4 : (r : Int) < (n : Int) := by omega
    have i5 : ((r : Int) != -1) = true := by rw [bne_iff_ne]; omega
    clear hr hg
    go_enter Try.func171, Try.ntmps171
    go_wp2_with fail
    go_quiet (fail)
    go_wp2_with fail
    go_ret
    exact ⟨rfl, _, rfl⟩

theorem above_k {w0 w : World} {n : Nat} {M : Nat → Option Nat} {L : FLay} {S : FoS} {mk : Nat → Nat} (hF : FWk w0 w n M L S mk) {v : Nat} (hv : v < n) :
    Calls Try.prog 194 #[.pointer (some ⟨L.f, 0, none⟩), .int .i64 (v : Int)] w (FValK w0 n M L S mk (.int .i64 (encO ((M v).map fun m => S.bs (S.pred m)))) w) := by
  have f1 := hF.fw.fc 1 _ rfl
  have f6 := hF.fw.fc 6 _ rfl
  obtain ⟨b, o, hmA, c1⟩ := hF.fw.mcell hv
  dsimp only [FLay.rv] at f1 f6
  rw [hmA] at f1
  have i1 : (0 : Int) ≤ (v : Int) := by omega
  have i2 : (v : Int) < (n : Int) := by omega
  cases hr : M v with
  | none =>
    rw [hr] at c1
    simp only [encO, Option.map_none] at c1 ⊢
    clear hr hmA
    go_enter Try.func194, Try.ntmps194
    go_wp2_with fail
    go_ret
    exact ⟨rfl, hF, FStep.refl _ _⟩
  | some m =>
    have hm := hF.fw.mlt hv hr
    have hp := hF.fw.bd.pred m hm
    have c6 := hF.fw.c6 hm
    rw [hr] at c1
    simp only [encO, Option.map_some] at c1 ⊢
    have i3 : (0 : Int) ≤ (m : Int) := by omega
    have i4 : (m : Int) < (n : Int) := by omega
    have i5 : ((m : Int) == -1) = false := by rw [beq_eq_false_iff_ne]; omega
    have i6 : ¬ ((m : Int) = -1) := by omega
    have HBA := fun W (h : FWk w0 W n M L S mk) => base_k h hp
    clear hr hmA
    obtain ⟨p, hpp⟩ : ∃ p, p = S.pred m := ⟨_, rfl⟩
    rw [← hpp] at hp c6 HBA ⊢
    clear hpp
    go_enter Try.func194, Try.ntmps194
    go_upto_region 3 with fail
    (refine wp_quiet_tail 14 (by kernel_rfl) (by kernel_rfl) ?_
     simp only [List.take_succ_cons, List.take_zero, List.drop_succ_cons, List.drop_zero]
     repeat (go_big_quiet_step (fail))
     refine wpQuiet_nil ?_
     intro _ hw'
     obtain ⟨nq, hw''⟩ := hw'
     subst hw'')
    go_wp2_with (go_at_call 138; refine (HBA _ (hF.drewN _)).mono ?_; rintro e w1 ⟨rfl, hF1, hS1⟩)
    go_ret
    exact ⟨rfl, hF1, ((FStep.refl _ _).drewN _).trans hS1⟩
end Go.Proofs.Ytgddfmfiiodgbaa

/- Chains of bases, and the ways along them (no program in sight). -/
namespace Go.Proofs.Ytgddfmfiiodgbaa
set_option linter.unusedVariables false
set_option linter.unusedSimpArgs false

section
variable {n : Nat} {E : Nat → Nat → Prop} {M : Nat → Option Nat} {S : FoS} {D : Nat → Nat}

theorem Ch.first {b : Nat} {l : List Nat} (h : Ch M S b l) : ∃ l', l = b :: l' := by
  cases h
  · exact ⟨_, rfl⟩
  · exact ⟨_, rfl⟩

/-- A vertex is a base. -/
def IsB (n : Nat) (S : FoS) (x : Nat) : Prop := x < n ∧ S.outer x = true ∧ S.bs x = x

theorem FInv.isB (h : FInv n E M S D) {v : Nat} (hv : v < n) (ho : S.outer v = true) : IsB n S (S.bs v) := by
  obtain ⟨h1, h2, h3, h4, h5⟩ := h.bsout v hv ho
  exact ⟨h1, h2, h5⟩

theorem FInv.ch (hg : IsGr n E) (hM : IsMat n E M) (h : FInv n E M S D) : ∀ (d b : Nat), D b ≤ d → IsB n S b → ∃ l, Ch M S b l := by
  intro d
  induction d with
  | zero =>
    intro b hd hb
    cases hm : M b with
    | none => exact ⟨_, .root hm⟩
    | some m =>
      have := (h.up hg hM hb.1 hb.2.1 hb.2.2 hm).2.2.2.2.2.2.2.2
      omega
  | succ d ih =>
    intro b hd hb
    cases hm : M b with
    | none => exact ⟨_, .root hm⟩
    | some m =>
      obtain ⟨h1, h2, h3, h4, h5, h6, h7, h8, h9⟩ := h.up hg hM hb.1 hb.2.1 hb.2.2 hm
      obtain ⟨l, hl⟩ := ih _ (by omega) (h.isB h5 h4)
      exact ⟨_, .step hm hl⟩

theorem FInv.ch_all (hg : IsGr n E) (hM : IsMat n E M) (h : FInv n E M S D) {b : Nat} {l : List Nat} (hc : Ch M S b l) (hb : IsB n S b) :
    ∀ x ∈ l, IsB n S x ∧ D x ≤ D b ∧ S.root x = S.root b := by
  induction hc with
  | root hm => intro x hx; simp at hx; subst hx; exact ⟨hb, Nat.le_refl _, rfl⟩
  | @step b m l hm hc ih =>
    obtain ⟨h1, h2, h3, h4, h5, h6, h7, h8, h9⟩ := h.up hg hM hb.1 hb.2.1 hb.2.2 hm
    intro x hx
    rcases List.mem_cons.1 hx with rfl | hx
    · exact ⟨hb, Nat.le_refl _, rfl⟩
    · obtain ⟨g1, g2, g3⟩ := ih (h.isB h5 h4) x hx
      exact ⟨g1, by omega, g3.trans h8⟩

theorem FInv.ch_nodup (hg : IsGr n E) (hM : IsMat n E M) (h : FInv n E M S D) {b : Nat} {l : List Nat} (hc : Ch M S b l) (hb : IsB n S b) : l.Nodup := by
  induction hc with
  | root hm => simp
  | @step b m l hm hc ih =>
    obtain ⟨h1, h2, h3, h4, h5, h6, h7, h8, h9⟩ := h.up hg hM hb.1 hb.2.1 hb.2.2 hm
    refine List.nodup_cons.2 ⟨fun hx => ?_, ih (h.isB h5 h4)⟩
    have := (h.ch_all hg hM hc (h.isB h5 h4) b hx).2.1
    omega

theorem FInv.ch_last (hg : IsGr n E) (hM : IsMat n E M) (h : FInv n E M S D) {b : Nat} {l : List Nat} (hc : Ch M S b l) (hb : IsB n S b) : ∃ l' r, l = l' ++ [r] ∧ M r = none ∧ S.root b = some r := by
  induction hc with
  | @root b hm => exact ⟨[], b, rfl, hm, (h.free b hb.1 hm).2.1⟩
  | @step b m l hm hc ih =>
    obtain ⟨h1, h2, h3, h4, h5, h6, h7, h8, h9⟩ := h.up hg hM hb.1 hb.2.1 hb.2.2 hm
    obtain ⟨l', r, rfl, g1, g2⟩ := ih (h.isB h5 h4)
    exact ⟨b :: l', r, rfl, g1, h8.symm.trans g2⟩

theorem Ch.det {b : Nat} {l : List Nat} (h : Ch M S b l) : ∀ {l' : List Nat}, Ch M S b l' → l = l' := by
  induction h with
  | root hm =>
    intro l' h'
    cases h' with
    | root => rfl
    | step hm' _ => rw [hm] at hm'; cases hm'
  | step hm hc ih =>
    intro l' h'
    cases h' with
    | root hm' => rw [hm] at hm'; cases hm'
    | step hm' hc' =>
      rw [hm] at hm'
      cases hm'
      rw [ih hc']

/-- What follows an element of a chain is its own. -/
theorem Ch.tail {b : Nat} {l : List Nat} (h : Ch M S b l) : ∀ {l1 l2 : List Nat} {x : Nat}, l = l1 ++ x :: l2 → Ch M S x (x :: l2) := by
  induction h with
  | @root b hm =>
    intro l1 l2 x he
    cases l1 with
    | nil => simp at he; obtain ⟨rfl, rfl⟩ := he; exact .root hm
    | cons y l1 => simp at he
  | @step b m l hm hc ih =>
    intro l1 l2 x he
    cases l1 with
    | nil => simp at he; obtain ⟨rfl, rfl⟩ := he; exact .step hm hc
    | cons y l1 => simp at he; exact ih he.2

/-- Whose a vertex on a way is: of a blossom of some bases, or the mate of one of them, that an odd number of edges leads to alone. -/
def Owned (n : Nat) (M : Nat → Option Nat) (S : FoS) (full part : List Nat) (y : Nat) : Prop :=
  y < n ∧ ((S.outer y = true ∧ S.bs y ∈ full) ∨ (S.outer y = false ∧ ∃ z ∈ part, M y = some z))

/-- The way from an outer vertex up to a base above it. -/
theorem FInv.path_to (hg : IsGr n E) (hM : IsMat n E M) (h : FInv n E M S D) : ∀ (c1 : List Nat) (v x : Nat) (c2 : List Nat), v < n → S.outer v = true → Ch M S (S.bs v) (c1 ++ x :: c2) →
    ∃ a, Way M S v x a ∧ Seg E M v x a ∧ a.Nodup ∧ ∀ y ∈ a, Owned n M S (c1 ++ [x]) c1 y := by
  intro c1
  induction c1 with
  | nil =>
    intro v x c2 hv ho hc
    have : S.bs v = x := by
      obtain ⟨l', hl⟩ := hc.first
      simp at hl
      exact hl.1.symm
    obtain ⟨q, h1, h2, h3, h4⟩ := h.way v hv ho
    rw [this] at h1 h2
    exact ⟨q, h1, h2, h3, fun y hy => ⟨(h4 y hy).1, .inl ⟨(h4 y hy).2.1, by rw [(h4 y hy).2.2, this]; simp⟩⟩⟩
  | cons b c1 ih =>
    intro v x c2 hv ho hc
    have hB := h.isB hv ho
    have hbv : S.bs v = b := by
      obtain ⟨l', hl⟩ := hc.first
      simp at hl
      exact hl.1.symm
    have hnd := h.ch_nodup hg hM hc hB
    have hall := h.ch_all hg hM hc hB
    rw [hbv] at hc hB
    have hcc : ∃ m, M b = some m ∧ Ch M S (S.bs (S.pred m)) (c1 ++ x :: c2) := by
      generalize hl : b :: c1 ++ x :: c2 = l at hc
      cases hc with
      | root hm =>
        cases c1 <;> simp at hl
      | step hm hct =>
        simp only [List.cons_append, List.cons.injEq, true_and] at hl
        exact ⟨_, hm, hl ▸ hct⟩
    obtain ⟨m, hm, hct⟩ := hcc
    obtain ⟨h1, h2, h3, h4, h5, h6, h7, h8, h9⟩ := h.up hg hM hB.1 hB.2.1 hB.2.2 hm
    obtain ⟨a, a1, a2, a3, a4⟩ := ih (S.pred m) x c2 h5 h4 hct
    obtain ⟨q, q1, q2, q3, q4⟩ := h.way v hv ho
    rw [hbv] at q1 q2 q4
    obtain ⟨q', rfl⟩ := q1.last
    have hxm : x ∈ (b :: c1) ++ x :: c2 := by simp
    have hx := hall x hxm
    have hnd' := List.nodup_cons.1 hnd
    have hbx : b ≠ x := fun e => hnd'.1 (by rw [e]; simp)
    have hb1 : S.label b = 1 := by have := (h.bsout b hB.1 hB.2.1).2.2.1; rwa [hB.2.2] at this
    have hw : Way M S b x (b :: m :: a) := .even hbx hB.2.1 hb1 hm a1
    have hs : Seg E M b x (b :: m :: a) := .cons hm (hg.symm h6) a2
    have hxq : x ∉ q' := fun hxq => by
      have := (q4 x (by simp [hxq])).2.2
      rw [hx.1.2.2] at this
      exact hbx this.symm
    refine ⟨q' ++ (b :: m :: a), q1.comp rfl hw hxq, q2.comp rfl hs, ?_, ?_⟩
    · have e : q' ++ b :: m :: a = (q' ++ [b]) ++ m :: a := by simp
      rw [e, List.nodup_append]
      have hma : m ∉ a := fun hma => by
        rcases (a4 m hma).2 with h' | ⟨_, z, hz, hz'⟩
        · rw [h2] at h'; cases h'.1
        · rw [hM.symm hm] at hz'
          cases hz'
          exact hnd'.1 (by simp [hz])
      refine ⟨q3, List.nodup_cons.2 ⟨hma, a3⟩, fun y hy z hz hyz => ?_⟩
      subst hyz
      obtain ⟨g1, g2, g3⟩ := q4 y hy
      rcases List.mem_cons.1 hz with rfl | hz
      · rw [h2] at g2; cases g2
      · rcases (a4 y hz).2 with h' | h'
        · rw [g3] at h'
          exact hnd'.1 (by have := h'.2; simp at this ⊢; rcases this with h | h <;> simp [h])
        · rw [g2] at h'; cases h'.1
    · intro y hy
      simp only [List.mem_append, List.mem_cons] at hy
      rcases hy with hy | rfl | rfl | hy
      · obtain ⟨g1, g2, g3⟩ := q4 y (by simp [hy])
        exact ⟨g1, .inl ⟨g2, by rw [g3]; simp⟩⟩
      · exact ⟨hB.1, .inl ⟨hB.2.1, by rw [hB.2.2]; simp⟩⟩
      · exact ⟨h1, .inr ⟨h2, b, by simp, hM.symm hm⟩⟩
      · obtain ⟨g1, g2⟩ := a4 y hy
        refine ⟨g1, ?_⟩
        rcases g2 with ⟨g2, g3⟩ | ⟨g2, z, g3, g4⟩
        · exact .inl ⟨g2, by simp only [List.cons_append, List.mem_cons]; exact .inr g3⟩
        · exact .inr ⟨g2, z, by simp [g3], g4⟩

/-- The way from an outer vertex to its root. -/
theorem FInv.path (hg : IsGr n E) (hM : IsMat n E M) (h : FInv n E M S D) {v : Nat} (hv : v < n) (ho : S.outer v = true) :
    ∃ r p, S.root v = some r ∧ r < n ∧ M r = none ∧ Way M S v r p ∧ Seg E M v r p ∧ EvenW E M p ∧ p.Nodup ∧ ∀ y ∈ p, y < n ∧ S.root y = S.root v ∧ S.label y ≠ 0 := by
  have hB := h.isB hv ho
  obtain ⟨l, hc⟩ := h.ch hg hM _ _ (Nat.le_refl _) hB
  obtain ⟨l', r, rfl, h1, h2⟩ := h.ch_last hg hM hc hB
  obtain ⟨a, a1, a2, a3, a4⟩ := h.path_to hg hM l' v r [] hv ho hc
  have hroot : S.root v = some r := (h.bsout v hv ho).2.2.2.1.symm.trans h2
  have hall := h.ch_all hg hM hc hB
  refine ⟨r, a, hroot, (hall r (by simp)).1.1, h1, a1, a2, a2.even h1, a3, fun y hy => ?_⟩
  obtain ⟨g1, g2⟩ := a4 y hy
  refine ⟨g1, ?_⟩
  rcases g2 with ⟨g2, g3⟩ | ⟨g2, z, g3, g4⟩
  · refine ⟨?_, fun h0 => ?_⟩
    · rw [← (h.bsout y g1 g2).2.2.2.1, (hall _ g3).2.2, (h.bsout v hv ho).2.2.2.1]
    · rw [h.zero y g1 h0] at g2; cases g2
  · obtain ⟨b1, b2, b3⟩ := hall z (by simp [g3])
    obtain ⟨u1, u2, u3, u4, u5, u6, u7, u8, u9⟩ := h.up hg hM b1.1 b1.2.1 b1.2.2 (hM.symm g4)
    exact ⟨by rw [u7, b3, (h.bsout v hv ho).2.2.2.1], by omega⟩

end
end Go.Proofs.Ytgddfmfiiodgbaa
