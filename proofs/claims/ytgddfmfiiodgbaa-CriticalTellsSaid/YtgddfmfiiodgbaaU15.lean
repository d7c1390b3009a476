/- Two outer vertices of one tree that are joined: where their chains meet, and what both sides' shutting leaves (no program in sight). -/
import Derived.Test.YtgddfmfiiodgbaaU14
import Derived.Test.YtgddfmfiiodgbaaU12
import Derived.Test.YtgddfmfiiodgbaaU08
namespace Go.Proofs.Ytgddfmfiiodgbaa
set_option linter.unusedVariables false
set_option linter.unusedSimpArgs false

section
variable {n : Nat} {E : Nat → Nat → Prop} {M : Nat → Option Nat} {S S' : FoS} {D : Nat → Nat}

theorem Ch.meet {a b : Nat} {la lb : List Nat} (ha : Ch M S a la) (hb : Ch M S b lb) (hn : lb.Nodup) (hx : ∃ x ∈ la, x ∈ lb) :
    ∃ c xs ys r, la = xs ++ c :: r ∧ lb = ys ++ c :: r ∧ (∀ x ∈ xs, x ∉ lb) ∧ (∀ y ∈ ys, y ∉ la) := by
  have here : ∀ {a : Nat} {l : List Nat}, Ch M S a l → a ∈ lb → ∃ ys r, l = a :: r ∧ lb = ys ++ a :: r ∧ ∀ y ∈ ys, y ∉ l := by
    intro a l ha hab
    obtain ⟨ys, r, hr⟩ := List.append_of_mem hab
    have := (hb.tail hr).det ha
    subst this
    refine ⟨ys, r, rfl, hr, fun y hy hy' => ?_⟩
    rw [hr, List.nodup_append] at hn
    exact hn.2.2 y hy y hy' rfl
  induction ha with
  | @root a hm =>
    obtain ⟨x, hx1, hx2⟩ := hx
    simp at hx1
    subst hx1
    obtain ⟨ys, r, h1, h2, h3⟩ := here (.root hm) hx2
    exact ⟨_, [], ys, r, by simpa using h1, h2, by simp, h3⟩
  | @step a m l hm hc ih =>
    by_cases hab : a ∈ lb
    · obtain ⟨ys, r, h1, h2, h3⟩ := here (.step hm hc) hab
      exact ⟨_, [], ys, r, by simpa using h1, h2, by simp, h3⟩
    · obtain ⟨x, hx1, hx2⟩ := hx
      rcases List.mem_cons.1 hx1 with rfl | hx1
      · exact absurd hx2 hab
      · obtain ⟨c, xs, ys, r, h1, h2, h3, h4⟩ := ih ⟨x, hx1, hx2⟩
        refine ⟨c, a :: xs, ys, r, by rw [h1]; rfl, h2, fun z hz => ?_, fun y hy hy' => ?_⟩
        · rcases List.mem_cons.1 hz with rfl | hz
          · exact hab
          · exact h3 z hz
        · rcases List.mem_cons.1 hy' with rfl | hy'
          · exact hab (by rw [h2]; simp [hy])
          · exact h4 y hy hy'

theorem Ch.shp {f : Nat → Nat} {a : Nat} {l : List Nat} (h : Ch M S a l) : ∀ {xs r : List Nat} {b : Nat}, l = xs ++ b :: r → (∀ x ∈ xs, ∀ m, M x = some m → f (S.pred m) = S.bs (S.pred m)) → ShP M f S.pred a xs b := by
  induction h with
  | @root a hm =>
    intro xs r b he hf
    cases xs with
    | nil => simp at he; rw [he.1]; exact .nil _
    | cons x xs => cases xs <;> simp at he
  | @step a m l hm hc ih =>
    intro xs r b he hf
    cases xs with
    | nil => simp at he; rw [he.1]; exact .nil _
    | cons x xs =>
      simp at he
      obtain ⟨rfl, he⟩ := he
      refine .cons hm ?_
      rw [hf a (by simp) m hm]
      exact ih he (fun x hx m hm => hf x (by simp [hx]) m hm)

/-- What a side leaves of all else. -/
theorem shrL_rest (v w b : Nat) (ev : Nat → Int) : ∀ (xs : List Nat) (S : FoS), (∀ x ∈ xs, ∃ m, M x = some m ∧ S.label m = 2) →
    (FoS.shrL M v w b ev xs S).label = S.label ∧ (FoS.shrL M v w b ev xs S).pred = S.pred ∧ (FoS.shrL M v w b ev xs S).root = S.root ∧ (FoS.shrL M v w b ev xs S).gone = S.gone ∧ (FoS.shrL M v w b ev xs S).odd = S.odd ∧
    (FoS.shrL M v w b ev xs S).turn = S.turn ∧ (FoS.shrL M v w b ev xs S).looks = S.looks ∧ (FoS.shrL M v w b ev xs S).wait = S.wait ++ xs.map (fun x => (M x).getD 0) ∧
    (∀ u, (FoS.shrL M v w b ev xs S).outer u = true ↔ S.outer u = true ∨ Mts M xs u) ∧ (∀ u, ¬ Mts M xs u → (FoS.shrL M v w b ev xs S).bridge u = S.bridge u ∧ (FoS.shrL M v w b ev xs S).even u = S.even u) ∧
    (∀ u, Mts M xs u → (FoS.shrL M v w b ev xs S).bridge u = (v, w) ∧ (FoS.shrL M v w b ev xs S).even u = ev u) := by
  intro xs
  induction xs with
  | nil => intro S _; simp [FoS.shrL, Mts]
  | cons x xs ih =>
    intro S hx
    obtain ⟨m, hm, hl⟩ := hx x (by simp)
    have hgd : (M x).getD 0 = m := by rw [hm]; rfl
    have hla : (S.shr1 v w b x m (ev m)).label = S.label := by show (if S.label m = 0 then _ else _) = _; rw [if_neg (by omega)]
    obtain ⟨i1, i2, i3, i4, i5, i6, i7, i8, i9, i10, i11⟩ := ih (S.shr1 v w b x m (ev m)) (fun z hz => by rw [hla]; exact hx z (by simp [hz]))
    simp only [FoS.shrL, hgd]
    have hcons : ∀ u, Mts M (x :: xs) u ↔ u = m ∨ Mts M xs u := fun u => by
      unfold Mts
      simp only [List.mem_cons, exists_eq_or_imp, hm, Option.some.injEq]
      exact or_congr_left eq_comm
    refine ⟨by rw [i1, hla], i2, i3, i4, i5, i6, i7, ?_, ?_, ?_, ?_⟩
    · rw [i8]
      show (S.wait ++ [m]) ++ _ = _
      simp [hm]
    · intro u
      rw [i9, hcons]
      show (upd S.outer m true u = true) ∨ _ ↔ _
      unfold upd
      by_cases hu : u = m
      · simp [hu]
      · simp [hu]
    · intro u hu
      rw [hcons] at hu
      have h1 : u ≠ m := fun e => hu (.inl e)
      obtain ⟨k1, k2⟩ := i10 u (fun e => hu (.inr e))
      refine ⟨k1.trans (upd_ne _ _ h1), k2.trans (upd_ne _ _ h1)⟩
    · intro u hu
      rw [hcons] at hu
      by_cases h2 : Mts M xs u
      · exact i11 u h2
      · rcases hu with rfl | hu
        · obtain ⟨k1, k2⟩ := i10 u h2
          exact ⟨k1.trans (upd_same _ _ _), k2.trans (upd_same _ _ _)⟩
        · exact absurd hu h2

/-- The sides of a blossom, both. -/
theorem FInv.shut (hg : IsGr n E) (hM : IsMat n E M) (h : FInv n E M S D) {v w b : Nat} {xs ys r : List Nat} (hv : v < n) (hov : S.outer v = true) (hw : w < n) (how : S.outer w = true)
    (hcv : Ch M S (S.bs v) (xs ++ b :: r)) (hcw : Ch M S (S.bs w) (ys ++ b :: r)) (hd : ∀ x ∈ xs, x ∉ ys) (ev ev' : Nat → Int) :
    ShRun M n v w b ev xs.length (S.bs v) S (FoS.shrL M v w b ev xs S) ∧
    (FoS.shrL M v w b ev xs S).bs w = S.bs w ∧
    ShRun M n w v b ev' ys.length (S.bs w) (FoS.shrL M v w b ev xs S) (FoS.shrL M w v b ev' ys (FoS.shrL M v w b ev xs S)) ∧
    JoinP n M S (FoS.shrL M w v b ev' ys (FoS.shrL M v w b ev xs S)) v w b xs ys := by
  have hBv := h.isB hv hov
  have hBw := h.isB hw how
  obtain ⟨sx, hb, rv⟩ := h.side hg hM hv hov hcv
  obtain ⟨sy, _, rw'⟩ := h.side hg hM hw how hcw
  have nv := h.ch_nodup hg hM hcv hBv
  have nw := h.ch_nodup hg hM hcw hBw
  have hsy : ∀ {x y z : Nat}, M x = some z → M y = some z → x = y := fun h1 h2 => by
    have e := hM.symm h1; rw [hM.symm h2] at e; cases e; rfl
  have mates : ∀ l : List Nat, (∀ x ∈ l, IsB n S x ∧ x ≠ b ∧ D b ≤ D x ∧ S.root x = S.root b ∧ ∃ m, M x = some m) → ∀ x ∈ l, ∀ m, M x = some m → m < n ∧ S.bs m = m ∧ m ≠ b ∧ m ∉ l ∧ S.pred m < n ∧ S.bs (S.pred m) < n ∧ S.bs (S.bs (S.pred m)) = S.bs (S.pred m) ∧ S.outer m = false ∧ S.label m = 2 ∧ S.outer (S.pred m) = true ∧ (∀ u, u < n → S.bs u = m → u = m) := by
    intro l hl x hx m hm
    obtain ⟨g1, g2, g3, g4, g5⟩ := hl x hx
    obtain ⟨k1, k2, k3, k4, k5, k6, k7, k8, k9⟩ := h.up hg hM g1.1 g1.2.1 g1.2.2 hm
    obtain ⟨s1, s2⟩ := h.sing m k1 k2
    refine ⟨k1, s1, fun e => ?_, fun e => ?_, k5, (h.bsout _ k5 k4).1, (h.bsout _ k5 k4).2.2.2.2, k2, k3, k4, s2⟩
    · rw [e, hb.2.1] at k2; cases k2
    · have := (hl m e).1.2.1; rw [k2] at this; cases this
  have nodx : xs.Nodup := (List.nodup_append.1 nv).1
  have nody : ys.Nodup := (List.nodup_append.1 nw).1
  have hrx := shrL_rest (M := M) v w b ev xs S (fun x hx => by
    obtain ⟨_, _, _, _, m, hm⟩ := sx x hx
    exact ⟨m, hm, (mates xs sx x hx m hm).2.2.2.2.2.2.2.2.1⟩)
  have A := shr_loop (n := n) (M := M) (bs0 := S.bs) hsy b hb.1 hb.2.2 v w ev xs (S.bs v) S (fun _ => False) (hcv.shp rfl (fun _ _ _ _ => rfl)) nodx
    (fun x hx => by
      obtain ⟨g1, g2, g3, g4, g5⟩ := sx x hx
      refine ⟨g1.1, g1.2.2, g2, fun m hm => ?_⟩
      obtain ⟨m1, m2, m3, m4, m5, m6, m7, m8, m9, m10, m11⟩ := mates xs sx x hx m hm
      exact ⟨m1, m2, m3, m4, m5, m6, m7, m8, m9⟩)
    (fun u hu => ⟨fun e => e.elim, fun _ => rfl⟩) (fun u u' hu hu' he _ => h.inj u u' hu hu' he) (fun u hu he => .inl (h.inj u b hu hb.1 (by rw [he, hb.2.2]))) (fun u hu he => h.inj u b hu hb.1 (by rw [he, hb.2.2])) (fun _ _ e => e)
  obtain ⟨a1, a2, a3⟩ := A
  obtain ⟨r1, r2, r3, r4, r5, r6, r7, r8, r9, r10, r11⟩ := hrx
  generalize FoS.shrL M v w b ev xs S = S1 at *
  -- the sets behind the first side
  have c1 : ∀ u, u < n → (S.bs u ∈ xs ∨ Mts M xs (S.bs u)) → S1.bs u = b := fun u hu h' => (a1 u hu).1 (.inr h')
  have c2 : ∀ u, u < n → ¬ (S.bs u ∈ xs ∨ Mts M xs (S.bs u)) → S1.bs u = S.bs u := fun u hu h' => (a1 u hu).2 (by rintro (e | e); exact e; exact h' e)
  have nox : ∀ z, IsB n S z → ¬ Mts M xs z := by
    rintro z hz ⟨x, hx, hm⟩
    have := (mates xs sx x hx z hm).2.2.2.2.2.2.2.1
    rw [hz.2.1] at this
    cases this
  have nxy : ∀ z ∈ ys, z ∉ xs := fun z hz hz' => hd z hz' hz
  have keep : ∀ z, IsB n S z → z ∉ xs → ∀ u, u < n → S.bs u = z → S1.bs u = S.bs u := fun z hz hzx u hu he => c2 u hu (by
    rw [he]; rintro (e | e)
    · exact hzx e
    · exact nox z hz e)
  have hbx : b ∉ xs := fun e => (sx b e).2.1 rfl
  have hby : b ∉ ys := fun e => (sy b e).2.1 rfl
  have hb1 : S1.bs b = b := (keep b hb hbx b hb.1 hb.2.2).trans hb.2.2
  have hBwm : S.bs w ∈ ys ∨ S.bs w = b := by
    obtain ⟨l', hl'⟩ := hcw.first
    cases ys with
    | nil => simp at hl'; exact .inr hl'.1.symm
    | cons y ys => simp at hl'; exact .inl (by simp [hl'.1])
  have hw1 : S1.bs w = S.bs w := by
    refine keep _ hBw ?_ w hw rfl
    rcases hBwm with e | e
    · exact nxy _ e
    · rw [e]; exact hbx
  -- what follows in the chain of the second side
  have nexty : ∀ y ∈ ys, ∀ m, M y = some m → S1.bs (S.pred m) = S.bs (S.pred m) := by
    intro y hy m hm
    obtain ⟨m1, m2, m3, m4, m5, m6, m7, m8, m9, m10, m11⟩ := mates ys sy y hy m hm
    have hnx : S.bs (S.pred m) ∈ ys ∨ S.bs (S.pred m) = b := by
      obtain ⟨l1, l2, rfl⟩ := List.append_of_mem hy
      have hct := hcw.tail (l1 := l1) (x := y) (l2 := l2 ++ b :: r) (by simp)
      generalize hl : y :: (l2 ++ b :: r) = l at hct
      cases hct with
      | root hm' => rw [hm] at hm'; cases hm'
      | step hm' hc' =>
        rw [hm] at hm'
        cases hm'
        simp at hl
        obtain ⟨l', hl'⟩ := hc'.first
        rw [hl'] at hl
        cases l2 with
        | nil => simp at hl; exact .inr hl.1.symm
        | cons z l2 => simp at hl; exact .inl (by simp [hl.1])
    have hIs := h.isB m5 m10
    refine keep _ hIs ?_ _ m5 rfl
    rcases hnx with e | e
    · exact nxy _ e
    · rw [e]; exact hbx
  have m1s : ∀ y ∈ ys, ∀ m, M y = some m → ¬ Mts M xs m := by
    rintro y hy m hm ⟨x, hx, hm'⟩
    rw [hsy hm hm'] at hy
    exact nxy x hy hx
  have B := shr_loop (n := n) (M := M) (bs0 := S1.bs) hsy b hb.1 hb1 w v ev' ys (S.bs w) S1 (fun _ => False) (by rw [r2]; exact hcw.shp rfl nexty) nody
    (fun y hy => by
      obtain ⟨g1, g2, g3, g4, g5⟩ := sy y hy
      refine ⟨g1.1, (keep y g1 (nxy y hy) y g1.1 g1.2.2).trans g1.2.2, g2, fun m hm => ?_⟩
      obtain ⟨m1, m2, m3, m4, m5, m6, m7, m8, m9, m10, m11⟩ := mates ys sy y hy m hm
      have hm1 : S1.bs m = m := by
        rw [c2 m m1, m2]
        rw [m2]
        rintro (e | e)
        · have := (sx m e).1.2.1; rw [m8] at this; cases this
        · exact m1s y hy m hm e
      rw [r1, r2, nexty y hy m hm]
      refine ⟨m1, hm1, m3, m4, m5, m6, ?_, ?_, m9⟩
      · have hIs := h.isB m5 m10
        by_cases ht : S.bs (S.bs (S.pred m)) ∈ xs ∨ Mts M xs (S.bs (S.bs (S.pred m)))
        · rw [m7] at ht
          have e1 := c1 _ m5 ht
          rw [nexty y hy m hm] at e1
          rw [e1, hb1]
        · rw [c2 _ m6 ht, m7]
      · cases ho : S1.outer m with
        | false => rfl
        | true =>
          rcases (r9 m).1 ho with e | e
          · rw [m8] at e; cases e
          · exact absurd e (m1s y hy m hm))
    (fun u hu => ⟨fun e => e.elim, fun _ => rfl⟩) (fun u u' hu hu' he _ => a2 u u' hu hu' he) (fun u hu he => .inl (a2 u b hu hb.1 (by rw [he, hb1]))) (fun u hu he => a2 u b hu hb.1 (by rw [he, hb1])) (fun _ _ e => e)
  obtain ⟨b1, b2, b3⟩ := B
  have hry := shrL_rest (M := M) w v b ev' ys S1 (fun y hy => by
    obtain ⟨_, _, _, _, m, hm⟩ := sy y hy
    exact ⟨m, hm, by rw [r1]; exact (mates ys sy y hy m hm).2.2.2.2.2.2.2.2.1⟩)
  obtain ⟨q1, q2, q3, q4, q5, q6, q7, q8, q9, q10, q11⟩ := hry
  generalize FoS.shrL M w v b ev' ys S1 = S2 at *
  refine ⟨a3, hw1, b3, ?_⟩
  have hmm : ∀ u, Mts M (xs ++ ys) u ↔ Mts M xs u ∨ Mts M ys u := fun u => by
    unfold Mts
    constructor
    · rintro ⟨x, hx, h'⟩
      rcases List.mem_append.1 hx with hx | hx
      · exact .inl ⟨x, hx, h'⟩
      · exact .inr ⟨x, hx, h'⟩
    · rintro (⟨x, hx, h'⟩ | ⟨x, hx, h'⟩)
      · exact ⟨x, by simp [hx], h'⟩
      · exact ⟨x, by simp [hx], h'⟩
  have mx : ∀ u, Mts M xs u → u < n ∧ S.bs u = u := by
    rintro u ⟨x, hx, hm⟩
    have := mates xs sx x hx u hm
    exact ⟨this.1, this.2.1⟩
  have my : ∀ u, Mts M ys u → u < n ∧ S.bs u = u := by
    rintro u ⟨y, hy, hm⟩
    have := mates ys sy y hy u hm
    exact ⟨this.1, this.2.1⟩
  have mx' : ∀ u, u < n → Mts M xs (S.bs u) → Mts M xs u := by
    rintro u hu ⟨x, hx, hm⟩
    have := (mates xs sx x hx _ hm).2.2.2.2.2.2.2.2.2.2 u hu rfl
    exact ⟨x, hx, by rw [this]; exact hm⟩
  have my' : ∀ u, u < n → Mts M ys (S.bs u) → Mts M ys u := by
    rintro u hu ⟨x, hx, hm⟩
    have := (mates ys sy x hx _ hm).2.2.2.2.2.2.2.2.2.2 u hu rfl
    exact ⟨x, hx, by rw [this]; exact hm⟩
  have nboth : ∀ u, Mts M xs u → ¬ Mts M ys u := by
    rintro u ⟨x, hx, hm⟩ ⟨y, hy, hm'⟩
    exact m1s y hy u hm' ⟨x, hx, hm⟩
  have d1 : ∀ u, u < n → (S1.bs u ∈ ys ∨ Mts M ys (S1.bs u)) → S2.bs u = b := fun u hu h' => (b1 u hu).1 (.inr h')
  have d2 : ∀ u, u < n → ¬ (S1.bs u ∈ ys ∨ Mts M ys (S1.bs u)) → S2.bs u = S1.bs u := fun u hu h' => (b1 u hu).2 (by rintro (e | e); exact e; exact h' e)
  have nby : ¬ (b ∈ ys ∨ Mts M ys b) := by
    rintro (e | ⟨y, hy, hm⟩)
    · exact hby e
    · exact (mates ys sy y hy b hm).2.2.1 rfl
  refine ⟨by rw [q1, r1], by rw [q2, r2], by rw [q3, r3], fun u => ?_, fun u hu => ?_, fun u hu => ?_, fun u hu => ?_, fun u hu h' => ?_, fun u hu h' => ?_, b2⟩
  · rw [q9, r9, hmm, or_assoc]
  · rw [hmm] at hu
    rw [(q10 u (fun e => hu (.inr e))).1, (r10 u (fun e => hu (.inl e))).1]
  · rw [(q10 u (nboth u hu)).1, (r11 u hu).1]
  · exact (q11 u hu).1
  · rw [hmm] at h'
    by_cases ht : S.bs u ∈ xs ∨ Mts M xs (S.bs u)
    · have e := c1 u hu ht
      rw [d2 u hu (by rw [e]; exact nby), e]
    · have e := c2 u hu ht
      refine d1 u hu ?_
      rw [e]
      rcases h' with h' | h' | h'
      · rcases List.mem_append.1 h' with h' | h'
        · exact absurd (.inl h') ht
        · exact .inl h'
      · exact absurd (.inr (by rw [(mx u h').2]; exact h')) ht
      · exact .inr (by rw [(my u h').2]; exact h')
  · rw [hmm] at h'
    have ht : ¬ (S.bs u ∈ xs ∨ Mts M xs (S.bs u)) := by
      rintro (e | e)
      · exact h' (.inl (by simp [e]))
      · exact h' (.inr (.inl (mx' u hu e)))
    have e := c2 u hu ht
    rw [d2 u hu, e]
    rw [e]
    rintro (e' | e')
    · exact h' (.inl (by simp [e']))
    · exact h' (.inr (.inr (my' u hu e')))
end
end Go.Proofs.Ytgddfmfiiodgbaa

/- Walks of a forest's unite, meet. -/

namespace Go.Proofs.Ytgddfmfiiodgbaa
open Go Go.RowKit
set_option maxRecDepth 100000
set_option linter.unusedVariables false
set_option linter.unusedSimpArgs false

theorem UpOk.unite {n : Nat} {u cls : Nat → Nat} (h : UpOk n u cls) {v w : Nat} (hv : v < n) (hw : w < n) : UpOk n (upd u (cls v) (cls w)) (fun z => if cls z = cls v then cls w else cls z) := by
  obtain ⟨hh, H⟩ := h
  by_cases e : cls v = cls w
  · refine ⟨hh, fun z hz => ?_⟩
    have e1 : (fun z => if cls z = cls v then cls w else cls z) = cls := by
      funext z
      by_cases hz : cls z = cls v
      · rw [if_pos hz, hz, e]
      · rw [if_neg hz]
    have e2 : upd u (cls v) (cls w) = u := by
      funext z
      unfold upd
      split
      · rename_i hz; rw [hz, (H v hv).2.1, e]
      · rfl
    rw [e1, e2]
    exact H z hz
  · refine ⟨fun z => if cls z = cls v then hh z + hh (cls w) + 1 else hh z, fun z hz => ?_⟩
    obtain ⟨a1, a2, a3, a4, a5, a6⟩ := H z hz
    obtain ⟨b1, b2, b3, b4, b5, b6⟩ := H v hv
    obtain ⟨c1, c2, c3, c4, c5, c6⟩ := H w hw
    have kw : cls (cls w) = cls w := (H (cls w) c1).2.2.2.2.2 c2
    have kv : cls (cls v) = cls v := (H (cls v) b1).2.2.2.2.2 b2
    have hwv : cls w ≠ cls v := fun e' => e e'.symm
    by_cases hz1 : z = cls v
    · subst hz1
      rw [upd_same]
      simp only [kv, if_true, kw]
      rw [upd_ne _ _ hwv]
      simp only [kw, if_neg hwv, if_true]
      refine ⟨c1, c2, c1, trivial, fun _ => ?_, fun e' => ?_⟩
      · omega
      · exact e'
    · rw [upd_ne _ _ hz1]
      by_cases hz2 : cls z = cls v
      · simp only [hz2, if_true, a4]
        rw [upd_ne _ _ hwv]
        refine ⟨c1, c2, a3, trivial, fun hne => ?_, fun e' => ?_⟩
        · have := a5 hne; omega
        · have := a6 e'; rw [hz2] at this; exact absurd this.symm hz1
      · have hz3 : cls z ≠ cls v := hz2
        simp only [if_neg hz2, a4]
        rw [upd_ne _ _ hz3]
        exact ⟨a1, a2, a3, trivial, a5, a6⟩

set_option maxHeartbeats 1000000 in
theorem unite_any {w0 w : World} {n : Nat} {M : Nat → Option Nat} {L : FLay} {S : FoS} (hF : FW w0 w n M L S) {v u b : Nat} (hv : v < n) (hw : u < n) (hb : b < n) :
    Calls Try.prog 195 #[.pointer (some ⟨L.f, 0, none⟩), .int .i64 (v : Int), .int .i64 (u : Int), .int .i64 (b : Int)] w (FPost w0 n M L (S.unite v u b) (.tuple #[]) w) := by
  have hx := hF.cls_lt hv
  have hy := hF.cls_lt hw
  have HV := fun W (h : FW w0 W n M L S) => first_any h hv
  have HU := fun W (h : FW w0 W n M L S) => first_any h hw
  obtain ⟨x, hxx⟩ : ∃ x, x = S.cls v := ⟨_, rfl⟩
  obtain ⟨y, hyy⟩ : ∃ y, y = S.cls u := ⟨_, rfl⟩
  rw [← hxx] at hx HV
  rw [← hyy] at hy HU
  have HX := Lib.hid hxx
  have HY := Lib.hid hyy
  clear hxx hyy
  have i1 : (0 : Int) ≤ (x : Int) := by omega
  have i2 : (x : Int) < (n : Int) := by omega
  have i3 : (0 : Int) ≤ (y : Int) := by omega
  have i4 : (y : Int) < (n : Int) := by omega
  go_enter Try.func195, Try.ntmps195
  go_upto_region 1 with (first | (go_at_call 170; ((with_reducible refine (HV _ hF).mono ?_); rintro e w1 ⟨rfl, hF1, hS1⟩)) | (go_at_call 170; ((with_reducible refine (HU _ hF1).mono ?_); rintro e w2 ⟨rfl, hF2, hS2⟩)))
  obtain ⟨up, mk, hM⟩ := hF2
  have HM := Lib.hid hM
  have f10 := hM.fc 10 _ rfl
  have z10 := hM.rf 10 (by omega) (by omega) x
  have c10 := hM.rc 10 (by omega) (by omega) x _ (rowOf_get _ hx)
  dsimp only [FLay.rv] at f10
  have hM3 := hM.set 10 x (.int .i64 (y : Int)) (by omega) (by omega) (S' := { S with cls := (S.unite v u b).cls }) (u' := upd up x y) (mk' := mk) (by show rowOf n _ = (rowOf n _).set _ _; rw [rowOf_set, upd_map up (fun v => Value.int .i64 (v : Int))]) (fun k _ _ hk => FRow_up S up mk n x _ k hk) rfl rfl rfl ⟨hM.bd.pred, hM.bd.root, hM.bd.bridge, hM.bd.base, hM.bd.wait, hM.bd.len, hM.bd.turn, hM.bd.looks, hM.bd.label⟩
    (by rw [HX.out, HY.out]; exact hM.up.unite hv hw) hM.mark
  have HM3 := Lib.hid hM3
  have HT3 := Lib.hid ((hS1.trans hS2).set (p := ⟨L.b 10, x, none⟩) (own_row (by omega) (by omega)) (.int .i64 (y : Int)))
  clear hM hM3
  go_cut [] (fun wc => Hid (FMem w0 wc n M L { S with cls := (S.unite v u b).cls } (upd up x y) mk) ∧ Hid (FStep L L w wc))
  case first =>
    go_wp2_with fail
    go_meet
    exact ⟨HM3, HT3⟩
  case rest =>
    obtain ⟨hM4, hT4⟩ := hcut
    clear f10 z10 c10
    have f11 := hM4.out.fc 11 _ rfl
    have z11 := hM4.out.rf 11 (by omega) (by omega) y
    have c11 := hM4.out.rc 11 (by omega) (by omega) y _ (rowOf_get _ hy)
    dsimp only [FLay.rv] at f11
    go_wp2_with fail
    go_end0
    refine ⟨L, rfl, ⟨upd up x y, mk, ?_⟩, hT4.out.set (p := ⟨L.b 11, y, none⟩) (own_row (by omega) (by omega)) _⟩
    have h9 := hM4.out.s11 y b hb
    rw [HY.out] at h9 ⊢
    exact h9
end Go.Proofs.Ytgddfmfiiodgbaa
