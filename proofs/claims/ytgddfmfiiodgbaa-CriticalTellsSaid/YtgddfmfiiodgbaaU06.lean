/- Matchings, paths that alternate, and why a matching without a path that augments is largest (no program in sight). -/

namespace Go.Proofs.Ytgddfmfiiodgbaa
set_option linter.unusedVariables false
set_option linter.unusedSimpArgs false

/-- A matching of a graph with n vertices. -/
structure IsMat (n : Nat) (E : Nat → Nat → Prop) (M : Nat → Option Nat) : Prop where
  symm : ∀ {v w}, M v = some w → M w = some v
  edge : ∀ {v w}, M v = some w → E v w
  lt : ∀ {v w}, M v = some w → v < n

/-- A graph with n vertices. -/
structure IsGr (n : Nat) (E : Nat → Nat → Prop) : Prop where
  symm : ∀ {v w}, E v w → E w v
  lt : ∀ {v w}, E v w → v < n
  irr : ∀ v, ¬ E v v

/-- The vertices without mates. -/
def freeL (n : Nat) (M : Nat → Option Nat) : List Nat := (List.range n).filter fun v => (M v).isNone
theorem mem_freeL {n : Nat} {M : Nat → Option Nat} {v : Nat} : v ∈ freeL n M ↔ v < n ∧ M v = none := by
  simp [freeL]
theorem nodup_range : ∀ n, (List.range n).Nodup := fun n => List.nodup_range
theorem nodup_freeL (n : Nat) (M : Nat → Option Nat) : (freeL n M).Nodup := by
  unfold freeL
  exact List.Pairwise.filter _ (nodup_range n)

/-- From the end of a path of an even number of edges to its begin, a vertex without a mate. -/
inductive EvenW (E : Nat → Nat → Prop) (M : Nat → Option Nat) : List Nat → Prop
  | root {r : Nat} : M r = none → EvenW E M [r]
  | step {v m u : Nat} {l : List Nat} : M v = some m → E m u → EvenW E M (u :: l) → EvenW E M (v :: m :: u :: l)

/-- There is a path that augments: its ends have no mates. -/
def AugW (E : Nat → Nat → Prop) (M : Nat → Option Nat) (p : List Nat) : Prop := ∃ v u l, p = v :: u :: l ∧ M v = none ∧ E v u ∧ EvenW E M (u :: l) ∧ p.Nodup

/-- What lies between two matchings, from a vertex that the first leaves alone. -/
inductive Both (M M' : Nat → Option Nat) : List Nat → Prop
  | root {r : Nat} : M r = none → Both M M' [r]
  | step {z y u : Nat} {l : List Nat} : M' u = some y → M y = some z → Both M M' (u :: l) → Both M M' (z :: y :: u :: l)

section
variable {n : Nat} {E : Nat → Nat → Prop} {M M' : Nat → Option Nat}

theorem Both.even (hg : IsGr n E) (hM : IsMat n E M) (hM' : IsMat n E M') {p : List Nat} (h : Both M M' p) : EvenW E M p := by
  induction h with
  | root h => exact .root h
  | step h1 h2 _ ih => exact .step (hM.symm h2) (hg.symm (hM'.edge h1)) ih

theorem Both.closed (hM : IsMat n E M) (hM' : IsMat n E M') {p : List Nat} (h : Both M M' p) :
    (∀ x ∈ p, ∀ y, M x = some y → y ∈ p) ∧ (∀ x ∈ p.tail, ∃ y ∈ p.tail, M' x = some y) := by
  induction h with
  | root h => exact ⟨fun x hx y hy => (by simp at hx; subst hx; rw [h] at hy; cases hy), fun x hx => (by simp at hx)⟩
  | @step z y u l h1 h2 h3 ih =>
    obtain ⟨a, b⟩ := ih
    constructor
    · intro x hx w hw
      simp only [List.mem_cons] at hx
      rcases hx with rfl | rfl | hx
      · rw [hM.symm h2] at hw; cases hw; simp
      · rw [h2] at hw; cases hw; simp
      · have := a x (by simpa using hx) w hw
        simp only [List.mem_cons] at this ⊢
        exact .inr (.inr this)
    · intro x hx
      simp only [List.tail_cons, List.mem_cons] at hx
      rcases hx with rfl | rfl | hx
      · exact ⟨u, by simp, hM'.symm h1⟩
      · exact ⟨y, by simp, h1⟩
      · obtain ⟨w, hw, e⟩ := b x (by simpa using hx)
        exact ⟨w, by simp at hw ⊢; simp [hw], e⟩

/-- One step further on. -/
theorem Both.fresh (hg : IsGr n E) (hM : IsMat n E M) (hM' : IsMat n E M') {u : Nat} {l : List Nat} (h : Both M M' (u :: l)) (hn : (u :: l).Nodup) {y : Nat} (hy : M' u = some y) : y ∉ u :: l ∧ ∀ z, M y = some z → z ∉ y :: u :: l := by
  obtain ⟨a, b⟩ := h.closed hM hM'
  have h1 : y ∉ u :: l := by
    intro hm
    rcases List.mem_cons.1 hm with rfl | hm
    · exact hg.irr _ (hM'.edge hy)
    · obtain ⟨w, hw, e⟩ := b y (by simpa using hm)
      rw [hM'.symm hy] at e
      cases e
      exact (List.nodup_cons.1 hn).1 (by simpa using hw)
  refine ⟨h1, fun z hz hm => ?_⟩
  rcases List.mem_cons.1 hm with rfl | hm
  · exact hg.irr _ (hM.edge hz)
  · exact h1 (a z hm y (hM.symm hz))

theorem Both.nodup (hg : IsGr n E) (hM : IsMat n E M) (hM' : IsMat n E M') {p : List Nat} (h : Both M M' p) : p.Nodup := by
  induction h with
  | root h => simp
  | @step z y u l h1 h2 h3 ih =>
    obtain ⟨g1, g2⟩ := h3.fresh hg hM hM' ih h1
    exact List.nodup_cons.2 ⟨g2 z h2, List.nodup_cons.2 ⟨g1, ih⟩⟩

theorem Both.lt (hM : IsMat n E M) (hM' : IsMat n E M') {p : List Nat} (h : Both M M' p) (hr : ∀ r, p.getLast? = some r → r < n) : ∀ x ∈ p, x < n := by
  induction h with
  | @root r h => intro x hx; simp at hx; subst hx; exact hr x (by simp)
  | @step z y u l h1 h2 h3 ih =>
    intro x hx
    have ih := ih (fun r hr' => hr r (by simpa using hr'))
    simp only [List.mem_cons] at hx
    rcases hx with rfl | rfl | hx
    · exact hM.lt (hM.symm h2)
    · exact hM.lt h2
    · exact ih x (by simpa using hx)

/-- The way back is one way. -/
theorem Both.back (hM : IsMat n E M) (hM' : IsMat n E M') {p : List Nat} (h : Both M M' p) : ∀ q : List Nat, Both M M' q → p.head? = q.head? → p = q := by
  induction h with
  | @root r h =>
    intro q hq he
    cases hq with
    | root h' => simp at he; rw [he]
    | step h1 h2 h3 => simp at he; subst he; rw [hM.symm h2] at h; cases h
  | @step z y u l h1 h2 h3 ih =>
    intro q hq he
    cases hq with
    | root h' => simp at he; subst he; rw [hM.symm h2] at h'; cases h'
    | @step z' y' u' l' h1' h2' h3' =>
      simp at he
      subst he
      have e1 := hM.symm h2
      rw [hM.symm h2'] at e1
      cases e1
      have e2 := hM'.symm h1
      rw [hM'.symm h1'] at e2
      cases e2
      have := ih _ h3' (by simp)
      simp only [List.cons.injEq] at this
      rw [this.2]

end

/-- As many at least, where each has one of its own. -/
theorem len_le_rel {α β : Type} (R : α → β → Prop) (hinj : ∀ a a' b, R a b → R a' b → a = a') : ∀ (A : List α) (B : List β), A.Nodup → (∀ a ∈ A, ∃ b ∈ B, R a b) → A.length ≤ B.length := by
  intro A
  induction A with
  | nil => intro B _ _; exact Nat.zero_le _
  | cons a A ih =>
    intro B hA hR
    obtain ⟨b, hb, hab⟩ := hR a (by simp)
    obtain ⟨s, t, rfl⟩ := List.append_of_mem hb
    have hA' := List.nodup_cons.1 hA
    have := ih (s ++ t) hA'.2 (fun a' ha' => by
      obtain ⟨b', hb', hab'⟩ := hR a' (by simp [ha'])
      refine ⟨b', ?_, hab'⟩
      simp only [List.mem_append, List.mem_cons] at hb' ⊢
      rcases hb' with h | rfl | h
      · exact .inl h
      · exact absurd (hinj _ _ _ hab' hab ▸ ha') hA'.1
      · exact .inr h)
    simp at this ⊢
    omega
theorem rel_onto {α β : Type} (R : α → β → Prop) (hinj : ∀ a a' b, R a b → R a' b → a = a') (A : List α) (B : List β) (hA : A.Nodup) (hR : ∀ a ∈ A, ∃ b ∈ B, R a b) (hl : B.length ≤ A.length) : ∀ b ∈ B, ∃ a ∈ A, R a b := by
  intro b hb
  refine Classical.byContradiction fun hno => ?_
  obtain ⟨s, t, rfl⟩ := List.append_of_mem hb
  have := len_le_rel R hinj A (s ++ t) hA (fun a ha => by
    obtain ⟨b', hb', hab'⟩ := hR a ha
    refine ⟨b', ?_, hab'⟩
    simp only [List.mem_append, List.mem_cons] at hb' ⊢
    rcases hb' with h | rfl | h
    · exact .inl h
    · exact absurd ⟨a, ha, hab'⟩ hno
    · exact .inr h)
  simp at this hl
  omega
theorem length_le_of_nodup {l : List Nat} {n : Nat} (hn : l.Nodup) (h : ∀ x ∈ l, x < n) : l.length ≤ n := by
  have := len_le_rel (fun a b : Nat => a = b) (fun a a' b h h' => h.trans h'.symm) l (List.range n) hn (fun a ha => ⟨a, by simpa using h a ha, rfl⟩)
  simpa using this

section
variable {n : Nat} {E : Nat → Nat → Prop} {M M' : Nat → Option Nat}

/-- On from a path between two matchings: to a vertex that the second leaves alone, or to a path that augments the first. -/
theorem both_on (hg : IsGr n E) (hM : IsMat n E M) (hM' : IsMat n E M') (hno : ∀ p, ¬ AugW E M p) : ∀ (d : Nat) (u : Nat) (l : List Nat), n - (u :: l).length ≤ d → Both M M' (u :: l) → (∀ x ∈ u :: l, x < n) →
    ∃ z l', Both M M' (z :: l') ∧ M' z = none ∧ (z :: l').getLast? = (u :: l).getLast? ∧ z < n := by
  intro d
  induction d with
  | zero =>
    intro u l hd hB hlt
    cases hy : M' u with
    | none => exact ⟨u, l, hB, hy, rfl, hlt u (by simp)⟩
    | some y =>
      have hn := hB.nodup hg hM hM'
      obtain ⟨g1, g2⟩ := hB.fresh hg hM hM' hn hy
      have := length_le_of_nodup (n := n) (List.nodup_cons.2 ⟨g1, hn⟩) (fun x hx => by
        rcases List.mem_cons.1 hx with rfl | hx
        · exact hM'.lt (hM'.symm hy)
        · exact hlt x hx)
      simp at this hd
      omega
  | succ d ih =>
    intro u l hd hB hlt
    cases hy : M' u with
    | none => exact ⟨u, l, hB, hy, rfl, hlt u (by simp)⟩
    | some y =>
      have hn := hB.nodup hg hM hM'
      obtain ⟨g1, g2⟩ := hB.fresh hg hM hM' hn hy
      cases hz : M y with
      | none => exact absurd ⟨y, u, l, rfl, hz, hg.symm (hM'.edge hy), hB.even hg hM hM', List.nodup_cons.2 ⟨g1, hn⟩⟩ (hno _)
      | some z =>
        have hB' := Both.step hy hz hB
        obtain ⟨z', l', h1, h2, h3, h4⟩ := ih z (y :: u :: l) (by simp at hd ⊢; omega) hB' (fun x hx => by
          simp only [List.mem_cons] at hx
          rcases hx with rfl | rfl | hx
          · exact hM.lt (hM.symm hz)
          · exact hM.lt hz
          · exact hlt x (by simpa using hx))
        exact ⟨z', l', h1, h2, by rw [h3]; simp, h4⟩

/-- u is the vertex that M leaves alone, z the one that M' does, at the ends of one way. -/
def Ends (M M' : Nat → Option Nat) (u z : Nat) : Prop := ∃ l, Both M M' (z :: l) ∧ (z :: l).getLast? = some u

theorem ends_inj (hM : IsMat n E M) (hM' : IsMat n E M') (a a' b : Nat) (h : Ends M M' a b) (h' : Ends M M' a' b) : a = a' := by
  obtain ⟨l, h1, h2⟩ := h
  obtain ⟨l', h1', h2'⟩ := h'
  have := h1.back hM hM' _ h1' rfl
  rw [this, h2'] at h2
  cases h2
  rfl

theorem ends_all (hg : IsGr n E) (hM : IsMat n E M) (hM' : IsMat n E M') (hno : ∀ p, ¬ AugW E M p) : ∀ u ∈ freeL n M, ∃ z ∈ freeL n M', Ends M M' u z := by
  intro u hu
  obtain ⟨h1, h2⟩ := mem_freeL.1 hu
  obtain ⟨z, l', g1, g2, g3, g4⟩ := both_on hg hM hM' hno n u [] (by simp) (.root h2) (fun x hx => by simp at hx; omega)
  exact ⟨z, mem_freeL.2 ⟨g4, g2⟩, l', g1, by rw [g3]; rfl⟩

/-- Berge: where no path augments, every other matching leaves as many vertices alone, or more. -/
theorem berge (hg : IsGr n E) (hM : IsMat n E M) (hM' : IsMat n E M') (hno : ∀ p, ¬ AugW E M p) : (freeL n M).length ≤ (freeL n M').length :=
  len_le_rel (Ends M M') (ends_inj hM hM') _ _ (nodup_freeL n M) (ends_all hg hM hM' hno)

/-- What some largest matching leaves alone, a path of an even number of edges leads to. -/
theorem missed (hg : IsGr n E) (hM : IsMat n E M) (hM' : IsMat n E M') (hno : ∀ p, ¬ AugW E M p) (hl : (freeL n M').length ≤ (freeL n M).length) {v : Nat} (hv : v < n) (h : M' v = none) :
    ∃ l, EvenW E M (v :: l) ∧ (v :: l).Nodup := by
  obtain ⟨u, _, l, h1, _⟩ := rel_onto (Ends M M') (ends_inj hM hM') _ _ (nodup_freeL n M) (ends_all hg hM hM' hno) hl v (mem_freeL.2 ⟨hv, h⟩)
  exact ⟨l, h1.even hg hM hM', h1.nodup hg hM hM'⟩
end

end Go.Proofs.Ytgddfmfiiodgbaa

/- Trees with blossoms along a matching: what they are, and the ways in them (no program in sight). -/
namespace Go.Proofs.Ytgddfmfiiodgbaa
set_option linter.unusedVariables false
set_option linter.unusedSimpArgs false

def upd {α : Type} (f : Nat → α) (i : Nat) (x : α) : Nat → α := fun j => if j = i then x else f j
theorem upd_same {α : Type} (f : Nat → α) (i : Nat) (x : α) : upd f i x i = x := by simp [upd]
theorem upd_ne {α : Type} (f : Nat → α) {i j : Nat} (x : α) (h : j ≠ i) : upd f i x j = f j := by simp [upd, h]

/-- What is known of each vertex. -/
structure FoS where
  label : Nat → Nat
  outer : Nat → Bool
  even : Nat → Int
  odd : Nat → Int
  pred : Nat → Nat
  root : Nat → Option Nat
  bridge : Nat → Nat × Nat
  gone : Nat → Bool
  cls : Nat → Nat
  base : Nat → Nat
  turn : Nat
  wait : List Nat
  looks : Nat

/-- The base of a vertex's blossom. -/
def FoS.bs (S : FoS) (v : Nat) : Nat := S.base (S.cls v)

/-- The way from an outer vertex up to another one. -/
inductive Way (M : Nat → Option Nat) (S : FoS) : Nat → Nat → List Nat → Prop
  | stop (v : Nat) : Way M S v v [v]
  | even {v t m : Nat} {l : List Nat} : v ≠ t → S.outer v = true → S.label v = 1 → M v = some m → Way M S (S.pred m) t l → Way M S v t (v :: m :: l)
  | odd {v t x : Nat} {a b : List Nat} : v ≠ t → S.outer v = true → S.label v = 2 → M v = some x → Way M S (S.bridge v).1 x a → Way M S (S.bridge v).2 t b → Way M S v t (v :: (a.reverse ++ b))

/-- A path that alternates, from a vertex along its own edge of the matching. -/
inductive Seg (E : Nat → Nat → Prop) (M : Nat → Option Nat) : Nat → Nat → List Nat → Prop
  | nil (v : Nat) : Seg E M v v [v]
  | cons {v m u t : Nat} {l : List Nat} : M v = some m → E m u → Seg E M u t l → Seg E M v t (v :: m :: l)

section
variable {E : Nat → Nat → Prop} {M : Nat → Option Nat} {S : FoS}

theorem Way.first {v t : Nat} {l : List Nat} (h : Way M S v t l) : ∃ l', l = v :: l' := by
  cases h
  · exact ⟨_, rfl⟩
  · exact ⟨_, rfl⟩
  · exact ⟨_, rfl⟩

theorem Way.last {v t : Nat} {l : List Nat} (h : Way M S v t l) : ∃ l', l = l' ++ [t] := by
  induction h with
  | stop v => exact ⟨[], rfl⟩
  | even h1 h2 h3 h4 h5 ih => obtain ⟨l', rfl⟩ := ih; exact ⟨_ :: _ :: l', rfl⟩
  | odd h1 h2 h3 h4 h5 h6 _ ih => obtain ⟨l', rfl⟩ := ih; exact ⟨_ :: (_ ++ l'), by rw [← List.append_assoc]; rfl⟩

theorem Seg.first {v t : Nat} {l : List Nat} (h : Seg E M v t l) : ∃ l', l = v :: l' := by
  cases h
  · exact ⟨_, rfl⟩
  · exact ⟨_, rfl⟩

theorem Seg.last {v t : Nat} {l : List Nat} (h : Seg E M v t l) : ∃ l', l = l' ++ [t] := by
  induction h with
  | nil v => exact ⟨[], rfl⟩
  | cons h1 h2 h3 ih => obtain ⟨l', rfl⟩ := ih; exact ⟨_ :: _ :: l', rfl⟩

/-- One way behind another one. -/
theorem Way.comp {v c : Nat} {l : List Nat} (h : Way M S v c l) : ∀ {l1 : List Nat} {d : Nat} {l2 : List Nat}, l = l1 ++ [c] → Way M S c d l2 → d ∉ l1 → Way M S v d (l1 ++ l2) := by
  induction h with
  | stop v =>
    intro l1 d l2 he h2 hd
    cases l1 with
    | nil => exact h2
    | cons x l1 => simp at he
  | @even v t m l h1 h2 h3 h4 h5 ih =>
    intro l1 d l2 he hw hd
    obtain ⟨l', hl'⟩ := h5.last
    subst hl'
    have e : l1 = v :: m :: l' := by
      have := congrArg List.dropLast he
      rw [List.dropLast_concat] at this
      rw [← this, show v :: m :: (l' ++ [t]) = (v :: m :: l') ++ [t] by simp, List.dropLast_concat]
    subst e
    simp only [List.mem_cons, not_or] at hd
    exact .even (fun e => hd.1 e.symm) h2 h3 h4 (ih rfl hw hd.2.2)
  | @odd v t x a b h1 h2 h3 h4 h5 h6 _ ih =>
    intro l1 d l2 he hw hd
    obtain ⟨b', hb'⟩ := h6.last
    subst hb'
    have e : l1 = v :: (a.reverse ++ b') := by
      have := congrArg List.dropLast he
      rw [List.dropLast_concat] at this
      rw [← this, show v :: (a.reverse ++ (b' ++ [t])) = (v :: (a.reverse ++ b')) ++ [t] by simp, List.dropLast_concat]
    subst e
    simp only [List.mem_cons, List.mem_append, not_or] at hd
    have := ih rfl hw hd.2.2
    have h9 := Way.odd (fun e => hd.1 e.symm) h2 h3 h4 h5 this
    simpa [List.append_assoc] using h9

theorem Seg.comp {v c : Nat} {l : List Nat} (h : Seg E M v c l) : ∀ {l1 : List Nat} {d : Nat} {l2 : List Nat}, l = l1 ++ [c] → Seg E M c d l2 → Seg E M v d (l1 ++ l2) := by
  induction h with
  | nil v =>
    intro l1 d l2 he h2
    cases l1 with
    | nil => exact h2
    | cons x l1 => simp at he
  | @cons v m u t l h1 h2 h3 ih =>
    intro l1 d l2 he hw
    obtain ⟨l', hl'⟩ := h3.last
    subst hl'
    have e : l1 = v :: m :: l' := by
      have := congrArg List.dropLast he
      rw [List.dropLast_concat] at this
      rw [← this, show v :: m :: (l' ++ [t]) = (v :: m :: l') ++ [t] by simp, List.dropLast_concat]
    subst e
    exact .cons h1 h2 (ih rfl hw)

/-- Round a blossom the other way. -/
theorem Seg.turn (hE : ∀ {a b}, E a b → E b a) (hM : ∀ {a b}, M a = some b → M b = some a) {v x : Nat} {a : List Nat} (h : Seg E M v x a) : ∀ {m w d : Nat} {b : List Nat}, M m = some x → E v w → Seg E M w d b → Seg E M m d (m :: (a.reverse ++ b)) := by
  induction h with
  | nil v => intro m w d b h1 h2 h3; exact .cons h1 h2 h3
  | @cons v m1 u t l h1 h2 h3 ih =>
    intro m w d b h4 h5 h6
    have := ih h4 (hE h2) (.cons (hM h1) h5 h6)
    simpa [List.append_assoc] using this

/-- A path up to a vertex without a mate is one from the end to the begin. -/
theorem Seg.even {v t : Nat} {l : List Nat} (h : Seg E M v t l) (ht : M t = none) : EvenW E M l := by
  induction h with
  | nil v => exact .root ht
  | cons h1 h2 h3 ih =>
    obtain ⟨l', rfl⟩ := h3.first
    exact .step h1 h2 (ih ht)

end

/-- What ways hang on stays. -/
structure Stays (M : Nat → Option Nat) (S S' : FoS) : Prop where
  outer : ∀ v, S.outer v = true → S'.outer v = true
  label : ∀ v, S.outer v = true → S'.label v = S.label v
  bridge : ∀ v, S.outer v = true → S.label v = 2 → S'.bridge v = S.bridge v
  pred : ∀ v m, S.outer v = true → S.label v = 1 → M v = some m → S'.pred m = S.pred m

theorem Way.stays {M : Nat → Option Nat} {S S' : FoS} (hs : Stays M S S') {v t : Nat} {l : List Nat} (h : Way M S v t l) : Way M S' v t l := by
  induction h with
  | stop v => exact .stop v
  | @even v t m l h1 h2 h3 h4 h5 ih => exact .even h1 (hs.outer v h2) ((hs.label v h2).trans h3) h4 (by rw [hs.pred v m h2 h3 h4]; exact ih)
  | @odd v t x a b h1 h2 h3 h4 h5 h6 ih1 ih2 =>
    have hb := hs.bridge v h2 h3
    exact .odd h1 (hs.outer v h2) ((hs.label v h2).trans h3) h4 (by rw [hb]; exact ih1) (by rw [hb]; exact ih2)

/-- What always holds of trees with blossoms. -/
structure FInv (n : Nat) (E : Nat → Nat → Prop) (M : Nat → Option Nat) (S : FoS) (D : Nat → Nat) : Prop where
  lab : ∀ v, v < n → S.label v ≤ 2
  zero : ∀ v, v < n → S.label v = 0 → S.outer v = false
  free : ∀ v, v < n → M v = none → S.label v = 1 ∧ S.root v = some v ∧ S.bs v = v
  one : ∀ v, v < n → S.label v = 1 → S.outer v = true ∧ ∀ m, M v = some m → S.label m = 2
  two : ∀ v, v < n → S.label v = 2 → ∃ x, M v = some x ∧ S.label x = 1 ∧ S.outer (S.pred v) = true ∧ E (S.pred v) v ∧ S.root v = S.root x ∧ S.root v = S.root (S.pred v)
  sing : ∀ v, v < n → S.outer v = false → S.bs v = v ∧ ∀ u, u < n → S.bs u = v → u = v
  bsout : ∀ u, u < n → S.outer u = true → S.bs u < n ∧ S.outer (S.bs u) = true ∧ S.label (S.bs u) = 1 ∧ S.root (S.bs u) = S.root u ∧ S.bs (S.bs u) = S.bs u
  inj : ∀ u u', u < n → u' < n → S.bs u = S.bs u' → S.cls u = S.cls u'
  basem : ∀ x m, x < n → S.outer x = true → S.bs x = x → M x = some m → S.outer m = false ∧ D (S.bs (S.pred m)) < D x
  inm : ∀ x, x < n → S.outer x = true → S.bs x ≠ x → ∃ m, M x = some m ∧ S.outer m = true ∧ S.bs m = S.bs x
  way : ∀ v, v < n → S.outer v = true → ∃ q, Way M S v (S.bs v) q ∧ Seg E M v (S.bs v) q ∧ q.Nodup ∧ ∀ x ∈ q, x < n ∧ S.outer x = true ∧ S.bs x = S.bs v

/-- From a base up to a root. -/
inductive Ch (M : Nat → Option Nat) (S : FoS) : Nat → List Nat → Prop
  | root {b : Nat} : M b = none → Ch M S b [b]
  | step {b m : Nat} {l : List Nat} : M b = some m → Ch M S (S.bs (S.pred m)) l → Ch M S b (b :: l)

section
variable {n : Nat} {E : Nat → Nat → Prop} {M : Nat → Option Nat} {S : FoS} {D : Nat → Nat}

theorem FInv.out (h : FInv n E M S D) {v : Nat} (hv : v < n) (ho : S.outer v = true) : S.label v = 1 ∨ S.label v = 2 := by
  have h1 := h.lab v hv
  have h2 := h.zero v hv
  by_cases h0 : S.label v = 0
  · rw [h2 h0] at ho; cases ho
  · omega

theorem FInv.mate0 (hM : IsMat n E M) (h : FInv n E M S D) {v x : Nat} (hv : v < n) (h0 : S.label v = 0) (hm : M v = some x) : S.label x = 0 := by
  have hx := hM.lt (hM.symm hm)
  have h1 := h.lab x hx
  by_cases h2 : S.label x = 1
  · have := (h.one x hx h2).2 v (hM.symm hm); omega
  · by_cases h3 : S.label x = 2
    · obtain ⟨y, hy, hl, _⟩ := h.two x hx h3
      rw [hM.symm hm] at hy
      cases hy
      omega
    · omega

/-- What stands above a base. -/
theorem FInv.up (hg : IsGr n E) (hM : IsMat n E M) (h : FInv n E M S D) {b m : Nat} (hb : b < n) (ho : S.outer b = true) (hbs : S.bs b = b) (hm : M b = some m) :
    m < n ∧ S.outer m = false ∧ S.label m = 2 ∧ S.outer (S.pred m) = true ∧ S.pred m < n ∧ E (S.pred m) m ∧ S.root m = S.root b ∧ S.root (S.bs (S.pred m)) = S.root b ∧ D (S.bs (S.pred m)) < D b := by
  obtain ⟨h1, h2⟩ := h.basem b m hb ho hbs hm
  have hl : S.label b = 1 := by have := (h.bsout b hb ho).2.2.1; rwa [hbs] at this
  have hml := hM.lt (hM.symm hm)
  have h2m := (h.one b hb hl).2 m hm
  obtain ⟨x, e1, e2, e3, e4, e5, e6⟩ := h.two m hml h2m
  rw [hM.symm hm] at e1
  cases e1
  have hp : S.pred m < n := hg.lt e4
  exact ⟨hml, h1, h2m, e3, hp, e4, e5, by rw [(h.bsout _ hp e3).2.2.2.1, ← e6, e5], h2⟩
end
end Go.Proofs.Ytgddfmfiiodgbaa
