/- A matching turned along a path (no program in sight). -/
import Derived.Test.YtgddfmfiiodgbaaU06
import Derived.Test.YtgddfmfiiodgbaaU07
import Derived.Deep.CutBlock
namespace Go.Proofs.Ytgddfmfiiodgbaa
set_option linter.unusedVariables false
set_option linter.unusedSimpArgs false

/-- Pair by pair, each the other's mate. -/
def turnF : List Nat → (Nat → Option Nat) → Nat → Option Nat
  | a :: b :: l, M => turnF l (upd (upd M a (some b)) b (some a))
  | _, M => M
def pairsL : List Nat → List (Nat × Nat)
  | a :: b :: l => (a, b) :: pairsL l
  | _ => []

theorem mem_pairsL : ∀ (k : Nat) (p : List Nat), p.length ≤ k → ∀ x y, (x, y) ∈ pairsL p → x ∈ p ∧ y ∈ p := by
  intro k
  induction k with
  | zero => intro p hp x y h; match p with | [] => simp [pairsL] at h
  | succ k ih =>
    intro p hp x y h
    match p with
    | [] => simp [pairsL] at h
    | [a] => simp [pairsL] at h
    | a :: b :: l =>
      simp only [pairsL, List.mem_cons, Prod.mk.injEq] at h
      rcases h with ⟨rfl, rfl⟩ | h
      · simp
      · have := ih l (by simp at hp; omega) x y h
        simp [this.1, this.2]

theorem turnF_spec : ∀ (k : Nat) (p : List Nat) (M : Nat → Option Nat), p.length ≤ k → p.Nodup → p.length % 2 = 0 → ∀ x,
    (∀ y, ((x, y) ∈ pairsL p ∨ (y, x) ∈ pairsL p) → turnF p M x = some y) ∧ (x ∉ p → turnF p M x = M x) := by
  intro k
  induction k with
  | zero => intro p M hp _ _ x; match p with | [] => simp [pairsL, turnF]
  | succ k ih =>
    intro p M hp hn he x
    match p with
    | [] => simp [pairsL, turnF]
    | [a] => simp at he
    | a :: b :: l =>
      have h1 := List.nodup_cons.1 hn
      have h2 := List.nodup_cons.1 h1.2
      have hih := ih l (upd (upd M a (some b)) b (some a)) (by simp at hp; omega) h2.2 (by simp at he; omega) x
      have hab : a ≠ b := fun e => h1.1 (by simp [e])
      have hal : a ∉ l := fun e => h1.1 (by simp [e])
      simp only [turnF, pairsL, List.mem_cons, Prod.mk.injEq]
      refine ⟨fun y hy => ?_, fun hx => ?_⟩
      · rcases hy with (⟨rfl, rfl⟩ | hy) | (⟨rfl, rfl⟩ | hy)
        · rw [hih.2 hal, upd_ne _ _ hab, upd_same]
        · exact hih.1 y (.inl hy)
        · rw [hih.2 h2.1, upd_same]
        · exact hih.1 y (.inr hy)
      · simp only [not_or] at hx
        rw [hih.2 hx.2.2, upd_ne _ _ hx.2.1, upd_ne _ _ hx.1]

theorem pairs_all : ∀ (k : Nat) (p : List Nat), p.length ≤ k → p.length % 2 = 0 → ∀ x ∈ p, ∃ y, (x, y) ∈ pairsL p ∨ (y, x) ∈ pairsL p := by
  intro k
  induction k with
  | zero => intro p hp _ x hx; match p with | [] => simp at hx
  | succ k ih =>
    intro p hp he x hx
    match p with
    | [] => simp at hx
    | [a] => simp at he
    | a :: b :: l =>
      simp only [List.mem_cons] at hx
      rcases hx with rfl | rfl | hx
      · exact ⟨b, .inl (by simp [pairsL])⟩
      · exact ⟨a, .inr (by simp [pairsL])⟩
      · obtain ⟨y, hy⟩ := ih l (by simp at hp; omega) (by simp at he; omega) x hx
        exact ⟨y, hy.imp (fun h => by simp [pairsL, h]) (fun h => by simp [pairsL, h])⟩

theorem len_eq_of_same {A B : List Nat} (hA : A.Nodup) (hB : B.Nodup) (h : ∀ x, x ∈ A ↔ x ∈ B) : A.length = B.length := by
  have e := fun (a a' b : Nat) (h1 : a = b) (h2 : a' = b) => h1.trans h2.symm
  have h1 := len_le_rel (fun a b : Nat => a = b) e A B hA (fun a ha => ⟨a, (h a).1 ha, rfl⟩)
  have h2 := len_le_rel (fun a b : Nat => a = b) e B A hB (fun a ha => ⟨a, (h a).2 ha, rfl⟩)
  omega

section
variable {n : Nat} {E : Nat → Nat → Prop} {M : Nat → Option Nat}

theorem EvenW.closed (hM : IsMat n E M) {p : List Nat} (h : EvenW E M p) : (∀ x ∈ p, ∀ y, M x = some y → y ∈ p) ∧ p.length % 2 = 1 := by
  induction h with
  | root h => exact ⟨fun x hx y hy => (by simp at hx; subst hx; rw [h] at hy; cases hy), rfl⟩
  | @step v m u l h1 h2 h3 ih =>
    refine ⟨fun x hx y hy => ?_, by have := ih.2; simp at this ⊢; omega⟩
    simp only [List.mem_cons] at hx
    rcases hx with rfl | rfl | hx
    · rw [h1] at hy; cases hy; simp
    · rw [hM.symm h1] at hy; cases hy; simp
    · exact List.mem_cons_of_mem _ (List.mem_cons_of_mem _ (ih.1 x (by simpa using hx) y hy))

/-- Where the path begins, at a vertex without a mate: the last in the list. -/
theorem EvenW.root_only (hM : IsMat n E M) {p : List Nat} (h : EvenW E M p) : ∃ l r, p = l ++ [r] ∧ M r = none ∧ ∀ x ∈ l, M x ≠ none := by
  induction h with
  | @root r h => exact ⟨[], r, rfl, h, by simp⟩
  | @step v m u l h1 h2 h3 ih =>
    obtain ⟨l', r, e, h4, h5⟩ := ih
    refine ⟨v :: m :: l', r, by rw [e]; rfl, h4, fun x hx => ?_⟩
    simp only [List.mem_cons] at hx
    rcases hx with rfl | rfl | hx
    · rw [h1]; simp
    · rw [hM.symm h1]; simp
    · exact h5 x hx

theorem EvenW.pairs {p : List Nat} (h : EvenW E M p) : ∀ v u l, p = u :: l → E v u → ∀ x y, (x, y) ∈ pairsL (v :: p) → E x y := by
  induction h with
  | root h => intro v u l e hE x y hxy; simp at e; simp [pairsL] at hxy; obtain ⟨rfl, rfl⟩ := hxy; rw [e.1]; exact hE
  | @step v m u l h1 h2 h3 ih =>
    intro v' u' l' e hE x y hxy
    simp only [pairsL, List.mem_cons, Prod.mk.injEq] at hxy
    simp at e
    rcases hxy with ⟨rfl, rfl⟩ | hxy
    · rw [e.1]; exact hE
    · exact ih m u l rfl h2 x y (by simpa [pairsL] using hxy)

/-- What is turned is a matching, with two vertices less alone. -/
theorem AugW.turn (hg : IsGr n E) (hM : IsMat n E M) {p : List Nat} (h : AugW E M p) : IsMat n E (turnF p M) ∧ (freeL n (turnF p M)).length + 2 = (freeL n M).length := by
  obtain ⟨v, u, l, rfl, hf, hE, hp, hn⟩ := h
  have hcl := hp.closed hM
  have hlen : (v :: u :: l).length % 2 = 0 := by have := hcl.2; simp at this ⊢; omega
  have hsp := turnF_spec _ (v :: u :: l) M (Nat.le_refl _) hn hlen
  have hpr := hp.pairs v u l rfl hE
  have hall := pairs_all _ (v :: u :: l) (Nat.le_refl _) hlen
  have hclo : ∀ x ∈ v :: u :: l, ∀ y, M x = some y → y ∈ v :: u :: l := by
    intro x hx y hy
    rcases List.mem_cons.1 hx with rfl | hx
    · rw [hf] at hy; cases hy
    · exact List.mem_cons_of_mem _ (hcl.1 x hx y hy)
  have hlt : ∀ x ∈ v :: u :: l, x < n := by
    intro x hx
    obtain ⟨y, hy | hy⟩ := hall x hx
    · exact hg.lt (hpr _ _ hy)
    · exact hg.lt (hg.symm (hpr _ _ hy))
  have hval : ∀ x y, turnF (v :: u :: l) M x = some y → ((x, y) ∈ pairsL (v :: u :: l) ∨ (y, x) ∈ pairsL (v :: u :: l)) ∨ (x ∉ v :: u :: l ∧ M x = some y) := by
    intro x y hxy
    by_cases hx : x ∈ v :: u :: l
    · obtain ⟨y', hy'⟩ := hall x hx
      rw [(hsp x).1 y' hy'] at hxy
      cases hxy
      exact .inl hy'
    · rw [(hsp x).2 hx] at hxy
      exact .inr ⟨hx, hxy⟩
  have hmat : IsMat n E (turnF (v :: u :: l) M) := by
    refine ⟨fun {x y} hxy => ?_, fun {x y} hxy => ?_, fun {x y} hxy => ?_⟩
    · rcases hval x y hxy with hh | ⟨hx, hh⟩
      · exact (hsp y).1 x hh.symm
      · rw [(hsp y).2 (fun hy => hx (hclo y hy x (hM.symm hh)))]
        exact hM.symm hh
    · rcases hval x y hxy with (hh | hh) | ⟨hx, hh⟩
      · exact hpr _ _ hh
      · exact hg.symm (hpr _ _ hh)
      · exact hM.edge hh
    · rcases hval x y hxy with (hh | hh) | ⟨hx, hh⟩
      · exact hg.lt (hpr _ _ hh)
      · exact hg.lt (hg.symm (hpr _ _ hh))
      · exact hM.lt hh
  refine ⟨hmat, ?_⟩
  obtain ⟨l', r, he, hr, hnr⟩ := hp.root_only hM
  have hvr : v ≠ r := fun e => (List.nodup_cons.1 hn).1 (by rw [he, e]; simp)
  have hfree : ∀ x, x ∈ freeL n (turnF (v :: u :: l) M) ↔ x ∈ freeL n M ∧ x ∉ v :: u :: l := by
    intro x
    rw [mem_freeL, mem_freeL]
    constructor
    · rintro ⟨h1, h2⟩
      have hx : x ∉ v :: u :: l := fun hx => by
        obtain ⟨y, hy⟩ := hall x hx
        rw [(hsp x).1 y hy] at h2
        cases h2
      exact ⟨⟨h1, by rw [← (hsp x).2 hx]; exact h2⟩, hx⟩
    · rintro ⟨⟨h1, h2⟩, h3⟩
      exact ⟨h1, by rw [(hsp x).2 h3]; exact h2⟩
  have hone : ∀ x ∈ v :: u :: l, M x = none → x = v ∨ x = r := by
    intro x hx hxn
    rcases List.mem_cons.1 hx with rfl | hx
    · exact .inl rfl
    · rw [he] at hx
      rcases List.mem_append.1 hx with hx | hx
      · exact absurd hxn (hnr x hx)
      · exact .inr (by simpa using hx)
  have hrm : r ∈ v :: u :: l := List.mem_cons_of_mem _ (by rw [he]; simp)
  have := len_eq_of_same (A := v :: r :: freeL n (turnF (v :: u :: l) M)) (B := freeL n M) ?_ (nodup_freeL n M) ?_
  · simpa using this
  · refine List.nodup_cons.2 ⟨?_, List.nodup_cons.2 ⟨?_, nodup_freeL n _⟩⟩
    · simp only [List.mem_cons, not_or]
      exact ⟨hvr, fun h => ((hfree v).1 h).2 (by simp)⟩
    · exact fun h => ((hfree r).1 h).2 hrm
  · intro x
    simp only [List.mem_cons]
    constructor
    · rintro (rfl | rfl | hx)
      · exact mem_freeL.2 ⟨hlt _ (by simp), hf⟩
      · exact mem_freeL.2 ⟨hlt _ hrm, hr⟩
      · exact ((hfree x).1 hx).1
    · intro hx
      by_cases hxp : x ∈ v :: u :: l
      · rcases hone x hxp (mem_freeL.1 hx).2 with h | h
        · exact .inl h
        · exact .inr (.inl h)
      · exact .inr (.inr ((hfree x).2 ⟨hx, hxp⟩))

/-- A matching as large that leaves the path's end alone. -/
theorem EvenW.flip (hg : IsGr n E) (hM : IsMat n E M) {v : Nat} {l : List Nat} (h : EvenW E M (v :: l)) (hn : (v :: l).Nodup) (hv : v < n) :
    ∃ M', IsMat n E M' ∧ M' v = none ∧ (freeL n M').length = (freeL n M).length := by
  cases h with
  | root h => exact ⟨M, hM, h, rfl⟩
  | @step _ m u l h1 h2 h3 =>
    -- without v and its mate's edge: a path that augments from m on
    have hn1 := List.nodup_cons.1 hn
    have hmv : m ≠ v := fun e => hn1.1 (by simp [e])
    let N : Nat → Option Nat := upd (upd M v none) m none
    have hNm : N m = none := upd_same _ _ _
    have hNv : N v = none := by show upd (upd M v none) m none v = none; rw [upd_ne _ _ (Ne.symm hmv), upd_same]
    have hNo : ∀ x, x ≠ v → x ≠ m → N x = M x := fun x h1 h2 => by show upd (upd M v none) m none x = M x; rw [upd_ne _ _ h2, upd_ne _ _ h1]
    have hNs : ∀ {x y}, N x = some y → M x = some y ∧ x ≠ v ∧ x ≠ m ∧ y ≠ v ∧ y ≠ m := fun {x y} hxy => by
      have hxv : x ≠ v := fun e => by rw [e, hNv] at hxy; cases hxy
      have hxm : x ≠ m := fun e => by rw [e, hNm] at hxy; cases hxy
      rw [hNo x hxv hxm] at hxy
      refine ⟨hxy, hxv, hxm, fun e => ?_, fun e => ?_⟩
      · rw [e] at hxy; have := hM.symm hxy; rw [h1] at this; cases this; exact hxm rfl
      · rw [e] at hxy; have := hM.symm hxy; rw [hM.symm h1] at this; cases this; exact hxv rfl
    have hN : IsMat n E N := by
      refine ⟨fun {x y} hxy => ?_, fun {x y} hxy => hM.edge (hNs hxy).1, fun {x y} hxy => hM.lt (hNs hxy).1⟩
      obtain ⟨g1, g2, g3, g4, g5⟩ := hNs hxy
      rw [hNo y g4 g5]; exact hM.symm g1
    have hE' : ∀ {p : List Nat}, EvenW E M p → (∀ x ∈ p, x ≠ v ∧ x ≠ m) → EvenW E N p := by
      intro p hp
      induction hp with
      | root h => intro hx; exact .root (by rw [hNo _ (hx _ (by simp)).1 (hx _ (by simp)).2]; exact h)
      | step g1 g2 g3 ih =>
        intro hx
        exact .step (by rw [hNo _ (hx _ (by simp)).1 (hx _ (by simp)).2]; exact g1) g2 (ih fun x hx' => hx x (by simp only [List.mem_cons] at hx' ⊢; exact .inr (.inr hx')))
    have hA : AugW E N (m :: u :: l) := ⟨m, u, l, rfl, hNm, h2, hE' h3 (fun x hx => ⟨fun e => hn1.1 (by rw [← e]; simp only [List.mem_cons] at hx ⊢; exact .inr hx), fun e => (List.nodup_cons.1 hn1.2).1 (e ▸ hx)⟩), hn1.2⟩
    obtain ⟨t1, t2⟩ := hA.turn hg hN
    have hlen : (m :: u :: l).length % 2 = 0 := by have := (h3.closed hM).2; simp at this ⊢; omega
    have hsp := turnF_spec _ (m :: u :: l) N (Nat.le_refl _) hn1.2 hlen
    refine ⟨_, t1, by rw [(hsp v).2 hn1.1]; exact hNv, ?_⟩
    have hmn := hM.lt (hM.symm h1)
    have := len_eq_of_same (A := freeL n N) (B := v :: m :: freeL n M) (nodup_freeL n N) ?_ ?_
    · simp at this; omega
    · refine List.nodup_cons.2 ⟨?_, List.nodup_cons.2 ⟨?_, nodup_freeL n M⟩⟩
      · simp only [List.mem_cons, not_or]
        exact ⟨Ne.symm hmv, fun h => by rw [(mem_freeL.1 h).2] at h1; cases h1⟩
      · exact fun h => by have := (mem_freeL.1 h).2; rw [hM.symm h1] at this; cases this
    · intro x
      simp only [List.mem_cons, mem_freeL]
      by_cases hxv : x = v
      · simp [hxv, hv, hNv]
      · by_cases hxm : x = m
        · simp [hxm, hmn, hNm]
        · simp [hxv, hxm, hNo x hxv hxm]
end
end Go.Proofs.Ytgddfmfiiodgbaa

/- Walks of a forest's first, Base. -/

namespace Go.Proofs.Ytgddfmfiiodgbaa
open Go Go.RowKit
set_option maxRecDepth 100000
set_option linter.unusedVariables false
set_option linter.unusedSimpArgs false

/-- The forest is as it was, but for its own sets' pointers. -/
def FVal (w0 : World) (n : Nat) (M : Nat → Option Nat) (L : FLay) (S : FoS) (x : Value) (w : World) (e : Ending) (w' : World) : Prop :=
  e = .returned x ∧ FW w0 w' n M L S ∧ FStep L L w w'

/-- The same, the marks as they were. -/
def FWk (w0 w : World) (n : Nat) (M : Nat → Option Nat) (L : FLay) (S : FoS) (mk : Nat → Nat) : Prop := ∃ u, FMem w0 w n M L S u mk
theorem FWk.fw {w0 w : World} {n : Nat} {M : Nat → Option Nat} {L : FLay} {S : FoS} {mk : Nat → Nat} (h : FWk w0 w n M L S mk) : FW w0 w n M L S := by obtain ⟨u, h⟩ := h; exact ⟨u, mk, h⟩
def FValK (w0 : World) (n : Nat) (M : Nat → Option Nat) (L : FLay) (S : FoS) (mk : Nat → Nat) (x : Value) (w : World) (e : Ending) (w' : World) : Prop :=
  e = .returned x ∧ FWk w0 w' n M L S mk ∧ FStep L L w w'

def UpH (n : Nat) (u cls h : Nat → Nat) : Prop := ∀ v, v < n → cls v < n ∧ u (cls v) = cls v ∧ u v < n ∧ cls (u v) = cls v ∧ (u v ≠ v → h (u v) < h v) ∧ (u v = v → cls v = v)
theorem UpH.halve {n : Nat} {u cls h : Nat → Nat} (H : UpH n u cls h) {x : Nat} (hx : x < n) : UpH n (upd u x (u (u x))) cls h := by
  intro v hv
  obtain ⟨a1, a2, a3, a4, a5, a6⟩ := H v hv
  have hy := H (u x) (H x hx).2.2.1
  have hxx := H x hx
  refine ⟨a1, ?_, ?_, ?_, ?_, ?_⟩
  · by_cases e : cls v = x
    · rw [e] at a2 ⊢
      rw [upd_same, a2, a2]
    · rw [upd_ne _ _ e]; exact a2
  · by_cases e : v = x
    · rw [e, upd_same]; exact hy.2.2.1
    · rw [upd_ne _ _ e]; exact a3
  · by_cases e : v = x
    · rw [e, upd_same, hy.2.2.2.1]; exact hxx.2.2.2.1
    · rw [upd_ne _ _ e]; exact a4
  · by_cases e : v = x
    · subst e
      rw [upd_same]
      intro hne
      have h1 : u v ≠ v := fun e' => hne (by rw [e', e'])
      have h2 := a5 h1
      by_cases h3 : u (u v) = u v
      · rw [h3]; exact h2
      · have := hy.2.2.2.2.1 h3; omega
    · rw [upd_ne _ _ e]; exact a5
  · by_cases e : v = x
    · subst e
      rw [upd_same]
      intro he
      by_cases h1 : u v = v
      · exact a6 h1
      · have h2 := a5 h1
        by_cases h3 : u (u v) = u v
        · rw [h3] at he; exact absurd he h1
        · have := hy.2.2.2.2.1 h3; rw [he] at this; omega
    · rw [upd_ne _ _ e]; exact a6

theorem retn {a b : Nat} (h : a = b) : Ending.returned (.int .i64 (a : Int)) = .returned (.int .i64 (b : Int)) := by rw [h]
theorem FMem.drewN {w0 w : World} {n : Nat} {M : Nat → Option Nat} {L : FLay} {S : FoS} {u mk : Nat → Nat} (h : FMem w0 w n M L S u mk) (k : Nat) : FMem w0 (w.drewN k) n M L S u mk := h.go (below_drewN0 (Below.refl _ _) k)

theorem FRow_up (S : FoS) (u mk : Nat → Nat) (n x y k : Nat) (h : k ≠ 10) : FRow S (upd u x y) mk n k = FRow S u mk n k := by
  match k with
  | 0 | 1 | 2 | 3 | 4 | 5 | 6 | 7 | 8 | 9 | 11 | 12 => rfl
  | 10 => exact absurd rfl h
  | k + 13 => rfl

set_option maxHeartbeats 1000000 in
theorem first_k {w0 w : World} {n : Nat} {M : Nat → Option Nat} {L : FLay} {S : FoS} {mk : Nat → Nat} (hF : FWk w0 w n M L S mk) {v : Nat} (hv : v < n) :
    Calls Try.prog 170 #[.pointer (some ⟨L.f, 0, none⟩), .int .i64 (v : Int)] w (FValK w0 n M L S mk (.int .i64 (S.cls v : Int)) w) := by
  obtain ⟨u, hM⟩ := hF
  obtain ⟨h, hH⟩ := hM.up
  have HM := Lib.hid hM
  have HH := Lib.hid (show UpH n u S.cls h from hH)
  have hnn := hM.nn
  clear hM hH
  go_enter Try.func170, Try.ntmps170
  go_wp2_with fail
  go_loopw [1] (fun i wr => ∃ (x : Nat) (u' : Nat → Nat), i = .int .i64 x ∧ x < n ∧ Hid (S.cls x = S.cls v) ∧ Hid (UpH n u' S.cls h) ∧ Hid (FMem w0 wr n M L S u' mk) ∧ Hid (FStep L L w wr)) (fun i _ => h (intOf i).toNat)
  case atStart => exact ⟨v, u, rfl, hv, rfl, HH, HM, FStep.refl _ _⟩
  case round =>
    clear HM HH
    clear u
    obtain ⟨x, u, rfl, hx, hc, hH, hM, hS⟩ := hrel
    obtain ⟨b1, b2, b3, b4, b5, b6⟩ := hH.out x hx
    have hy := hH.out (u x) b3
    have f10 := hM.out.fc 10 _ rfl
    have c1 := hM.out.rc 10 (by omega) (by omega) x _ (rowOf_get _ hx)
    dsimp only [FLay.rv] at f10 c1
    by_cases hne : u x = x
    · rw [hne] at c1
      have hcx := b6 hne
      have HC := Lib.hid hcx
      clear hy b2 b3 b4 b5 b6 hne hcx
      go_wp2_with fail
      go_ret
      exact ⟨retn (HC.out.symm.trans hc.out), ⟨u, hM.out⟩, hS.out⟩
    · have c2 := hM.out.rc 10 (by omega) (by omega) (u x) _ (rowOf_get _ b3)
      have z1 := hM.out.rf 10 (by omega) (by omega) x
      obtain ⟨y, hyx⟩ : ∃ y, y = u x := ⟨_, rfl⟩
      obtain ⟨z, hzy⟩ : ∃ z, z = u y := ⟨_, rfl⟩
      simp only [← hyx, ← hzy] at b3 b4 b5 b6 hy c1 c2 hne
      have hb5 := b5 hne
      have hzn := hy.2.2.1
      have hzc : S.cls z = S.cls x := hy.2.2.2.1.trans b4
      have hlt : h z < h x := by
        by_cases h3 : z = y
        · rw [h3]; exact hb5
        · have := hy.2.2.2.2.1 h3; omega
      have HM2 := Lib.hid (fun k => (hM.out.drewN k).set 10 x (.int .i64 (z : Int)) (by omega) (by omega) (S' := S) (u' := upd u x (u (u x))) (mk' := mk) (by rw [← hyx, ← hzy]; show rowOf n _ = (rowOf n _).set _ _; rw [rowOf_set, upd_map u (fun v => Value.int .i64 (v : Int))]) (fun k _ _ hk => FRow_up S u mk n x _ k hk) rfl rfl rfl hM.out.bd ⟨h, hH.out.halve hx⟩ hM.out.mark)
      have HH2 := Lib.hid (hH.out.halve hx)
      have HC := Lib.hid (hzc.trans hc.out)
      have HL := Lib.hid hlt
      have HS2 := Lib.hid (fun k => (hS.out.drewN k).set (p := ⟨L.b 10, x, none⟩) (.inr (.inl ⟨10, by omega, by omega, rfl⟩)) (.int .i64 (z : Int)))
      have HZ := Lib.hid (show u (u x) = z by rw [← hyx, ← hzy])
      clear hyx hzy b2 b4 b5 b6 hy hb5 hzc hlt
      go_upto_region 2 with fail
      go_cut [] (fun wc => Hid (FMem w0 wc n M L S (upd u x (u (u x))) mk) ∧ Hid (FStep L L w wc))
      case first =>
        (refine wp_quiet_tail 19 (by kernel_rfl) (by kernel_rfl) ?_
         simp only [List.take_succ_cons, List.take_zero, List.drop_succ_cons, List.drop_zero]
         repeat (go_big_quiet_step (fail))
         refine wpQuiet_nil ?_
         intro _ hw'
         obtain ⟨nq, hw''⟩ := hw'
         subst hw'')
        go_wp2_with fail
        go_meet
        exact ⟨HM2.out _, HS2.out _⟩
      case rest =>
        obtain ⟨hM3, hS3⟩ := hcut
        have f10' := hM3.out.fc 10 _ rfl
        have c3 := hM3.out.rc 10 (by omega) (by omega) x _ (rowOf_get _ hx)
        rw [upd_same, HZ.out] at c3
        dsimp only [FLay.rv] at f10' c3
        go_wp2_with fail
        go_roundw
        case rel => exact ⟨z, _, rfl, hzn, HC, HH2, hM3, hS3⟩
        case measure => simp [intOf]; exact HL.out
theorem first_any {w0 w : World} {n : Nat} {M : Nat → Option Nat} {L : FLay} {S : FoS} (hF : FW w0 w n M L S) {v : Nat} (hv : v < n) :
    Calls Try.prog 170 #[.pointer (some ⟨L.f, 0, none⟩), .int .i64 (v : Int)] w (FVal w0 n M L S (.int .i64 (S.cls v : Int)) w) := by
  obtain ⟨u, mk, hM⟩ := hF
  exact (first_k (mk := mk) ⟨u, hM⟩ hv).mono fun e w' ⟨h1, h2, h3⟩ => ⟨h1, h2.fw, h3⟩
end Go.Proofs.Ytgddfmfiiodgbaa
