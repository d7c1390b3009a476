/- What a forest tells that cannot grow any more (no program in sight). -/
import Derived.Test.YtgddfmfiiodgbaaU15
import Derived.Test.YtgddfmfiiodgbaaU18
namespace Go.Proofs.Ytgddfmfiiodgbaa
set_option linter.unusedVariables false
set_option linter.unusedSimpArgs false

section
variable {n : Nat} {E : Nat → Nat → Prop} {M : Nat → Option Nat} {S S' : FoS} {D : Nat → Nat}

theorem EvenW.first {p : List Nat} (h : EvenW E M p) : ∃ v l, p = v :: l := by
  cases h
  · exact ⟨_, _, rfl⟩
  · exact ⟨_, _, rfl⟩
theorem EvenW.lt (hg : IsGr n E) (hM : IsMat n E M) {p : List Nat} (h : EvenW E M p) (hl : ∀ v, p = [v] → v < n) : ∀ x ∈ p, x < n := by
  induction h with
  | @root r hr => intro x hx; simp at hx; subst hx; exact hl _ rfl
  | @step v m u l h1 h2 h3 ih =>
    intro x hx
    simp only [List.mem_cons] at hx
    rcases hx with rfl | rfl | hx
    · exact hM.lt h1
    · exact hM.lt (hM.symm h1)
    · exact ih (fun v hv => by simp at hv; rw [← hv.1]; exact hg.lt (hg.symm h2)) x (by simpa using hx)

/-- No edge from an outer vertex leads on. -/
def Closed (E : Nat → Nat → Prop) (M : Nat → Option Nat) (S : FoS) : Prop := ∀ v w, E v w → S.outer v = true → M v = some w ∨ (S.label w ≠ 0 ∧ (S.outer w = true → S.bs v = S.bs w))

theorem FInv.closed_even (hg : IsGr n E) (hM : IsMat n E M) (h : FInv n E M S D) (hc : Closed E M S) {p : List Nat} (hp : EvenW E M p) : p.Nodup → (∀ x ∈ p, x < n) →
    (∀ v l, p = v :: l → S.outer v = true) ∧ ∀ x ∈ p, S.outer x = true → S.bs x ∈ p := by
  induction hp with
  | @root r hr =>
    intro _ hlt
    have hrn := hlt r (by simp)
    obtain ⟨f1, f2, f3⟩ := h.free r hrn hr
    refine ⟨fun v l e => ?_, fun x hx _ => ?_⟩
    · simp at e; rw [← e.1]; exact (h.one r hrn f1).1
    · simp at hx; subst hx; rw [f3]; simp
  | @step v m u l hm hE hp ih =>
    intro hn hlt
    have hn1 := List.nodup_cons.1 hn
    have hn2 := List.nodup_cons.1 hn1.2
    obtain ⟨i1, i2⟩ := ih hn2.2 (fun x hx => hlt x (by simp only [List.mem_cons] at hx ⊢; exact .inr (.inr hx)))
    have hu := i1 u l rfl
    have hvn := hlt v (by simp)
    have hmn := hlt m (by simp)
    have huv : M u ≠ some m := fun e => by
      have := hM.symm e
      rw [hM.symm hm] at this
      cases this
      exact hn1.1 (by simp)
    rcases hc u m (hg.symm hE) hu with e | ⟨e1, e2⟩
    · exact absurd e huv
    · have hstep : S.outer v = true ∧ S.bs v ∈ v :: m :: u :: l ∧ (S.outer m = true → S.bs m ∈ v :: m :: u :: l) := by
        cases ho : S.outer m with
        | false =>
          have hl2 : S.label m = 2 := by
            have := h.lab m hmn
            have h1 : S.label m ≠ 1 := fun e => by have := (h.one m hmn e).1; rw [ho] at this; cases this
            omega
          obtain ⟨x, g1, g2, _⟩ := h.two m hmn hl2
          rw [hM.symm hm] at g1
          cases g1
          have hov := (h.one _ hvn g2).1
          refine ⟨hov, ?_, fun e => by cases e⟩
          by_cases hb : S.bs v = v
          · rw [hb]; simp
          · obtain ⟨m', k1, k2, _⟩ := h.inm v hvn hov hb
            rw [hm] at k1
            cases k1
            rw [ho] at k2
            cases k2
        | true =>
          have hb := e2 ho
          have hmem := i2 u (by simp) hu
          rw [hb] at hmem
          have hne : S.bs m ≠ m := fun e => by rw [e] at hmem; exact hn2.1 hmem
          obtain ⟨m', k1, k2, k3⟩ := h.inm m hmn ho hne
          rw [hM.symm hm] at k1
          cases k1
          refine ⟨k2, ?_, fun _ => ?_⟩
          · rw [k3]; exact List.mem_cons_of_mem _ (List.mem_cons_of_mem _ hmem)
          · exact List.mem_cons_of_mem _ (List.mem_cons_of_mem _ hmem)
      obtain ⟨s1, s2, s3⟩ := hstep
      refine ⟨fun v' l' e => ?_, fun x hx hxo => ?_⟩
      · simp at e; rw [← e.1]; exact s1
      · rcases List.mem_cons.1 hx with rfl | hx
        · exact s2
        · rcases List.mem_cons.1 hx with rfl | hx
          · exact s3 hxo
          · exact List.mem_cons_of_mem _ (List.mem_cons_of_mem _ (i2 x hx hxo))

/-- An odd number of edges leads to what is labelled alone. -/
theorem FInv.closed_odd (hg : IsGr n E) (hM : IsMat n E M) (h : FInv n E M S D) (hc : Closed E M S) {w u : Nat} {l : List Nat} (hp : EvenW E M (u :: l)) (hE : E w u) (hn : (w :: u :: l).Nodup) (hm : M u ≠ some w) :
    S.label w ≠ 0 ∧ M w ≠ none := by
  have hn1 := List.nodup_cons.1 hn
  have hlt := hp.lt hg hM (fun v hv => by simp at hv; rw [← hv.1]; exact hg.lt (hg.symm hE))
  obtain ⟨i1, i2⟩ := h.closed_even hg hM hc hp hn1.2 hlt
  have hu := i1 u l rfl
  rcases hc u w (hg.symm hE) hu with e | ⟨e1, e2⟩
  · exact absurd e hm
  · refine ⟨e1, fun hf => ?_⟩
    have hwn := hg.lt hE
    obtain ⟨f1, f2, f3⟩ := h.free w hwn hf
    have ho := (h.one w hwn f1).1
    have := i2 u (by simp) hu
    rw [e2 ho, f3] at this
    exact hn1.1 this

theorem FInv.closed_none (hg : IsGr n E) (hM : IsMat n E M) (h : FInv n E M S D) (hc : Closed E M S) (p : List Nat) : ¬ AugW E M p := by
  rintro ⟨v, u, l, rfl, hf, hE, hp, hn⟩
  exact (h.closed_odd hg hM hc hp hE hn (fun e => by rw [hM.symm e] at hf; cases hf)).2 hf

/-- An odd one that is not outer: a path of an odd number of edges leads to it. -/
theorem FInv.path_odd (hg : IsGr n E) (hM : IsMat n E M) (h : FInv n E M S D) {v : Nat} (hv : v < n) (hl : S.label v = 2) (ho : S.outer v = false) :
    ∃ u l, E v u ∧ EvenW E M (u :: l) ∧ (v :: u :: l).Nodup ∧ M u ≠ some v := by
  obtain ⟨x, g1, g2, g3, g4, g5, g6⟩ := h.two v hv hl
  have hxn := hM.lt (hM.symm g1)
  have hxo := (h.one x hxn g2).1
  have hpn := hg.lt g4
  have hxb : S.bs x = x := Classical.byContradiction fun hb => by
    obtain ⟨m, k1, k2, _⟩ := h.inm x hxn hxo hb
    rw [hM.symm g1] at k1
    cases k1
    rw [ho] at k2
    cases k2
  have hB := h.isB hpn g3
  obtain ⟨c, hc⟩ := h.ch hg hM _ _ (Nat.le_refl _) hB
  have hcx : Ch M S x (x :: c) := .step (hM.symm g1) hc
  have hnx := h.ch_nodup hg hM hcx ⟨hxn, hxo, hxb⟩
  obtain ⟨l', r, rfl, h1, h2⟩ := h.ch_last hg hM hc hB
  obtain ⟨a, a1, a2, a3, a4⟩ := h.path_to hg hM l' (S.pred v) r [] hpn g3 hc
  obtain ⟨l, rfl⟩ := a2.first
  refine ⟨S.pred v, l, hg.symm g4, a2.even h1, List.nodup_cons.2 ⟨fun hm => ?_, a3⟩, fun e => ?_⟩
  · rcases (a4 v hm).2 with h' | ⟨_, z, hz, hz'⟩
    · rw [ho] at h'; cases h'.1
    · rw [g1] at hz'
      cases hz'
      exact (List.nodup_cons.1 hnx).1 (by simp [hz])
  · have := hM.symm e
    rw [g1] at this
    cases this
    have hbm : S.bs (S.pred v) = S.pred v := hxb
    obtain ⟨l'', hl''⟩ := hc.first
    rw [hbm] at hl''
    exact (List.nodup_cons.1 hnx).1 (by rw [hl'']; simp)

/-- What hangs on nothing else stays. -/
theorem FInv.same (h : FInv n E M S D) (h1 : S'.label = S.label) (h2 : S'.outer = S.outer) (h3 : S'.pred = S.pred) (h4 : S'.root = S.root) (h5 : S'.bridge = S.bridge) (h6 : S'.cls = S.cls) (h7 : S'.base = S.base) : FInv n E M S' D := by
  have hb : S'.bs = S.bs := by funext u; unfold FoS.bs; rw [h6, h7]
  have hst : Stays M S S' := ⟨fun v hv => by rw [h2]; exact hv, fun v _ => by rw [h1], fun v _ _ => by rw [h5], fun v m _ _ _ => by rw [h3]⟩
  refine ⟨?_, ?_, ?_, ?_, ?_, ?_, ?_, ?_, ?_, ?_, ?_⟩
  · rw [h1]; exact h.lab
  · rw [h1, h2]; exact h.zero
  · rw [h1, h4, hb]; exact h.free
  · rw [h1, h2]; exact h.one
  · rw [h1, h2, h3, h4]; exact h.two
  · rw [h2, hb]; exact h.sing
  · rw [h2, h1, h4, hb]; exact h.bsout
  · rw [hb, h6]; exact h.inj
  · rw [h2, h3, hb]; exact h.basem
  · rw [h2, hb]; exact h.inm
  · rw [h2, hb]
    intro v hv ho
    obtain ⟨q, q1, q2⟩ := h.way v hv ho
    exact ⟨q, q1.stays hst, q2⟩

/-- A path from one tree to another one augments. -/
theorem FInv.aug (hg : IsGr n E) (hM : IsMat n E M) (h : FInv n E M S D) {v w : Nat} (hv : v < n) (hov : S.outer v = true) (hw : w < n) (how : S.outer w = true) (hE : E v w) (hr : S.root v ≠ S.root w) :
    ∃ rv rw pv pw, S.root v = some rv ∧ S.root w = some rw ∧ rv < n ∧ rw < n ∧ Way M S v rv pv ∧ Way M S w rw pw ∧ Seg E M v rv pv ∧ Seg E M w rw pw ∧ M rv = none ∧ M rw = none ∧ (pv.reverse ++ pw).Nodup ∧ (∀ y ∈ pv, y < n ∧ S.root y = some rv ∧ S.label y ≠ 0) ∧ (∀ y ∈ pw, y < n ∧ S.root y = some rw ∧ S.label y ≠ 0) := by
  obtain ⟨rv, pv, a1, a2, a3, a4, a5, a6, a7, a8⟩ := h.path hg hM hv hov
  obtain ⟨rw', pw, b1, b2, b3, b4, b5, b6, b7, b8⟩ := h.path hg hM hw how
  refine ⟨rv, rw', pv, pw, a1, b1, a2, b2, a4, b4, a5, b5, a3, b3, ?_, fun y hy => by have := a8 y hy; rw [a1] at this; exact this, fun y hy => by have := b8 y hy; rw [b1] at this; exact this⟩
  rw [List.nodup_append]
  refine ⟨by simpa [List.nodup_iff_pairwise_ne] using (List.pairwise_reverse.2 (a7.imp fun h => Ne.symm h)), b7, fun y hy y' hy' e => ?_⟩
  subst e
  have e1 := (a8 y (by simpa using hy)).2.1
  have e2 := (b8 y hy').2.1
  rw [e1] at e2
  exact hr e2

end
end Go.Proofs.Ytgddfmfiiodgbaa

/- A search: what holds as edges are looked at, one by one (no program in sight). -/
namespace Go.Proofs.Ytgddfmfiiodgbaa
set_option linter.unusedVariables false
set_option linter.unusedSimpArgs false

/-- What holds in a search: F are the vertices that were looked from, Lk the edges that were looked at. -/
structure SI (n : Nat) (E : Nat → Nat → Prop) (M : Nat → Option Nat) (S : FoS) (D : Nat → Nat) (F : List Nat) (Lk : Nat → Nat → Prop) : Prop where
  inv : FInv n E M S D
  nd : (F ++ S.wait).Nodup
  mem : ∀ v, v < n → (S.outer v = true ↔ v ∈ F ++ S.wait)
  lt : ∀ v ∈ F ++ S.wait, v < n
  sub : ∀ v w, Lk v w → v ∈ F ∧ E v w
  looked : ∀ v w, Lk v w → M v = some w ∨ S.label w ≠ 0
  both : ∀ v w, Lk v w → Lk w v → M v = some w ∨ S.bs v = S.bs w

/-- One edge more. -/
def LkP (Lk : Nat → Nat → Prop) (v w : Nat) : Nat → Nat → Prop := fun a b => Lk a b ∨ (a = v ∧ b = w)

section
variable {n : Nat} {E : Nat → Nat → Prop} {M : Nat → Option Nat} {S S' : FoS} {D : Nat → Nat} {F : List Nat} {Lk : Nat → Nat → Prop}

theorem SI.outerF (h : SI n E M S D F Lk) {v : Nat} (hv : v ∈ F) : v < n ∧ S.outer v = true := by
  have := h.lt v (by simp [hv])
  exact ⟨this, (h.mem v this).2 (by simp [hv])⟩

theorem SI.congr (h : SI n E M S D F Lk) {Lk' : Nat → Nat → Prop} (hl : ∀ a b, Lk' a b ↔ Lk a b) : SI n E M S D F Lk' := by
  obtain rfl : Lk' = Lk := by funext a b; exact propext (hl a b)
  exact h

theorem SI.next (h : SI n E M S D F Lk) {v : Nat} {l : List Nat} (hw : S.wait = v :: l) : SI n E M { S with wait := l } D (F ++ [v]) Lk ∧ v < n ∧ S.outer v = true := by
  have e : (F ++ [v]) ++ l = F ++ S.wait := by rw [hw]; simp
  have hv := h.lt v (by rw [hw]; simp)
  refine ⟨⟨h.inv.same rfl rfl rfl rfl rfl rfl rfl, ?_, ?_, ?_, ?_, h.looked, h.both⟩, hv, (h.mem v hv).2 (by rw [hw]; simp)⟩
  · show ((F ++ [v]) ++ l).Nodup
    rw [e]; exact h.nd
  · intro u hu
    show S.outer u = true ↔ u ∈ (F ++ [v]) ++ l
    rw [e]; exact h.mem u hu
  · intro u hu
    have hu' : u ∈ (F ++ [v]) ++ l := hu
    rw [e] at hu'
    exact h.lt u hu'
  · intro a b hab
    obtain ⟨h1, h2⟩ := h.sub a b hab
    exact ⟨by simp [h1], h2⟩

theorem SI.nothing (hM : IsMat n E M) (h : SI n E M S D F Lk) {v w : Nat} (hv : v ∈ F) (hE : E v w) (hn : M v = some w ∨ (S.label w ≠ 0 ∧ (S.outer w = true → S.bs v = S.bs w))) (hirr : v ≠ w)
    (h1 : S'.label = S.label) (h2 : S'.outer = S.outer) (h3 : S'.pred = S.pred) (h4 : S'.root = S.root) (h5 : S'.bridge = S.bridge) (h6 : S'.cls = S.cls) (h7 : S'.base = S.base) (h8 : S'.wait = S.wait) : SI n E M S' D F (LkP Lk v w) := by
  have hb : S'.bs = S.bs := by funext u; unfold FoS.bs; rw [h6, h7]
  refine ⟨h.inv.same h1 h2 h3 h4 h5 h6 h7, by rw [h8]; exact h.nd, by rw [h8, h2]; exact h.mem, by rw [h8]; exact h.lt, ?_, ?_, ?_⟩
  · rintro a b (hab | ⟨rfl, rfl⟩)
    · exact h.sub a b hab
    · exact ⟨hv, hE⟩
  · rw [h1]
    rintro a b (hab | ⟨rfl, rfl⟩)
    · exact h.looked a b hab
    · exact hn.imp_right (·.1)
  · rw [hb]
    have key : Lk w v → M v = some w ∨ S.bs v = S.bs w := fun hwv => by
      rcases hn with hn | ⟨_, hn⟩
      · exact .inl hn
      · exact .inr (hn (h.outerF (h.sub w v hwv).1).2)
    rintro a b (hab | ⟨rfl, rfl⟩) (hba | ⟨e1, e2⟩)
    · exact h.both a b hab hba
    · subst e1; subst e2
      exact (key hab).imp (fun e => hM.symm e) (fun e => e.symm)
    · exact key hba
    · exact absurd e2 hirr

theorem SI.fresh (hg : IsGr n E) (hM : IsMat n E M) (h : SI n E M S D F Lk) {v w x : Nat} (o e : Int) (hv : v ∈ F) (hE : E v w) (h0 : S.label w = 0) (hm : M w = some x) :
    SI n E M (S.grow v w x o e) (upd D x (D (S.bs v) + 1)) F (LkP Lk v w) := by
  obtain ⟨hvn, hvo⟩ := h.outerF hv
  have hwn := hg.lt (hg.symm hE)
  have hxn := hM.lt (hM.symm hm)
  have hx0 := h.inv.mate0 hM hwn h0 hm
  have hwx : x ≠ w := fun e => hg.irr w (hM.edge (e ▸ hm))
  have ox := h.inv.zero x hxn hx0
  have ow := h.inv.zero w hwn h0
  have hnx : x ∉ F ++ S.wait := fun hx => by rw [(h.mem x hxn).2 hx] at ox; cases ox
  have hwt : (S.grow v w x o e).wait = S.wait ++ [x] := rfl
  have L := grow_label (S := S) v w x o e hx0 hwx
  have hnw : ∀ a, ¬ Lk w a := fun a ha => by
    have := (h.outerF (h.sub w a ha).1).2
    rw [ow] at this; cases this
  refine ⟨h.inv.grow hg hM o e hvn hvo hwn hE h0 hm, ?_, ?_, ?_, ?_, ?_, ?_⟩
  · rw [hwt, ← List.append_assoc, List.nodup_append]
    refine ⟨h.nd, by simp, fun a ha b hb hab => ?_⟩
    simp at hb
    subst hab; subst hb
    exact hnx ha
  · intro u hu
    rw [hwt, ← List.append_assoc, grow_outer]
    by_cases hux : u = x
    · simp [hux]
    · rw [if_neg hux, h.mem u hu]
      simp [hux]
  · intro u hu
    rw [hwt, ← List.append_assoc] at hu
    rcases List.mem_append.1 hu with hu | hu
    · exact h.lt u hu
    · simp at hu; subst hu; exact hxn
  · rintro a b (hab | ⟨rfl, rfl⟩)
    · exact h.sub a b hab
    · exact ⟨hv, hE⟩
  · rintro a b (hab | ⟨rfl, rfl⟩)
    · rcases h.looked a b hab with h' | h'
      · exact .inl h'
      · refine .inr ?_
        rw [L]
        split
        · omega
        · split
          · omega
          · exact h'
    · refine .inr ?_
      rw [L, if_neg (Ne.symm hwx), if_pos rfl]; omega
  · simp only [grow_bs]
    rintro a b (hab | ⟨rfl, rfl⟩) (hba | ⟨e1, e2⟩)
    · exact h.both a b hab hba
    · subst e1; subst e2; exact absurd hab (hnw _)
    · exact absurd hba (hnw _)
    · subst e1; exact absurd (e2 ▸ hE) (hg.irr _)

/-- A blossom is shut. -/
theorem SI.joined (hg : IsGr n E) (hM : IsMat n E M) (h : SI n E M S D F Lk) {v w b : Nat} {xs ys r : List Nat} (hv : v ∈ F) (hE : E v w) (how : S.outer w = true)
    (hcv : Ch M S (S.bs v) (xs ++ b :: r)) (hcw : Ch M S (S.bs w) (ys ++ b :: r)) (hd : ∀ x ∈ xs, x ∉ ys) (J : JoinP n M S S' v w b xs ys) (hwt : S'.wait = S.wait ++ (xs ++ ys).map (fun x => (M x).getD 0)) :
    SI n E M S' D F (LkP Lk v w) := by
  obtain ⟨hvn, hvo⟩ := h.outerF hv
  have hwn := hg.lt (hg.symm hE)
  obtain ⟨sx, hb, rv⟩ := h.inv.side hg hM hvn hvo hcv
  obtain ⟨sy, _, rw'⟩ := h.inv.side hg hM hwn how hcw
  have hZ : ∀ x ∈ xs ++ ys, IsB n S x ∧ x ≠ b ∧ D b ≤ D x ∧ S.root x = S.root b ∧ ∃ m, M x = some m := fun x hx => by
    rcases List.mem_append.1 hx with h | h
    · exact sx x h
    · exact sy x h
  have hst := h.inv.join_stays hg hM (fun x hx => (hZ x hx).1) J
  have hmt : ∀ u, Mts M (xs ++ ys) u ↔ u ∈ (xs ++ ys).map (fun x => (M x).getD 0) := fun u => by
    unfold Mts
    rw [List.mem_map]
    constructor
    · rintro ⟨x, hx, hm⟩; exact ⟨x, hx, by rw [hm]; rfl⟩
    · rintro ⟨x, hx, hm⟩
      obtain ⟨_, _, _, _, m, hm'⟩ := hZ x hx
      rw [hm'] at hm
      exact ⟨x, hx, by rw [hm']; exact congrArg some hm⟩
  have hno : ∀ u, Mts M (xs ++ ys) u → u < n ∧ S.outer u = false := by
    rintro u ⟨z, hz, hm⟩
    obtain ⟨g1, _⟩ := hZ z hz
    obtain ⟨k1, k2, _⟩ := h.inv.up hg hM g1.1 g1.2.1 g1.2.2 hm
    exact ⟨k1, k2⟩
  have hzo : ∀ u, u < n → S.outer u = true → ∀ u', u' < n → S.outer u' = true → S.bs u = S.bs u' → S'.bs u = S'.bs u' := by
    intro u hu ho u' hu' ho' he
    have n1 : ¬ Mts M (xs ++ ys) u := fun hm => by have := (hno u hm).2; rw [ho] at this; cases this
    have n2 : ¬ Mts M (xs ++ ys) u' := fun hm => by have := (hno u' hm).2; rw [ho'] at this; cases this
    by_cases ht : S.bs u ∈ xs ++ ys
    · rw [J.bs1 u hu (.inl ht), J.bs1 u' hu' (.inl (by rw [← he]; exact ht))]
    · rw [J.bs0 u hu (by rintro (e | e); exact ht e; exact n1 e), J.bs0 u' hu' (by rintro (e | e); exact ht (by rw [he]; exact e); exact n2 e), he]
  have hvb : S'.bs v = b := by
    by_cases ht : S.bs v ∈ xs ++ ys ∨ Mts M (xs ++ ys) v
    · exact J.bs1 v hvn ht
    · rw [J.bs0 v hvn ht]
      obtain ⟨l', hl'⟩ := hcv.first
      cases xs with
      | nil => simp at hl'; exact hl'.1.symm
      | cons y xs => simp at hl'; exact absurd (.inl (by simp [hl'.1])) ht
  have hwb : S'.bs w = b := by
    by_cases ht : S.bs w ∈ xs ++ ys ∨ Mts M (xs ++ ys) w
    · exact J.bs1 w hwn ht
    · rw [J.bs0 w hwn ht]
      obtain ⟨l', hl'⟩ := hcw.first
      cases ys with
      | nil => simp at hl'; exact hl'.1.symm
      | cons y ys => simp at hl'; exact absurd (.inl (by simp [hl'.1])) ht
  have hsy : ∀ {x y z : Nat}, M x = some z → M y = some z → x = y := fun h1 h2 => by
    have e := hM.symm h1; rw [hM.symm h2] at e; cases e; rfl
  refine ⟨h.inv.join hg hM hvn hvo hwn how hE hcv hcw hd J, ?_, ?_, ?_, ?_, ?_, ?_⟩
  · rw [hwt, ← List.append_assoc, List.nodup_append]
    refine ⟨h.nd, ?_, fun a ha b hb hab => ?_⟩
    · have nv := h.inv.ch_nodup hg hM hcv (h.inv.isB hvn hvo)
      have nw := h.inv.ch_nodup hg hM hcw (h.inv.isB hwn how)
      have hnd : (xs ++ ys).Nodup := by
        rw [List.nodup_append]
        exact ⟨(List.nodup_append.1 nv).1, (List.nodup_append.1 nw).1, fun a ha b hb e => hd a ha (e ▸ hb)⟩
      unfold List.Nodup at hnd ⊢
      rw [List.pairwise_map]
      refine hnd.imp_of_mem fun {a b} ha hb hab e => ?_
      obtain ⟨_, _, _, _, m, hm⟩ := hZ a ha
      obtain ⟨_, _, _, _, m', hm'⟩ := hZ b hb
      rw [hm, hm'] at e
      simp at e
      subst e
      exact hab (hsy hm hm')
    · subst hab
      obtain ⟨g1, g2⟩ := hno a ((hmt a).2 hb)
      rw [(h.mem a g1).2 ha] at g2
      cases g2
  · intro u hu
    rw [hwt, ← List.append_assoc, J.outer, h.mem u hu, hmt, List.mem_append (s := F ++ S.wait)]
  · intro u hu
    rw [hwt, ← List.append_assoc] at hu
    rcases List.mem_append.1 hu with hu | hu
    · exact h.lt u hu
    · exact (hno u ((hmt u).2 hu)).1
  · rintro a b (hab | ⟨rfl, rfl⟩)
    · exact h.sub a b hab
    · exact ⟨hv, hE⟩
  · rw [J.label]
    rintro a b (hab | ⟨rfl, rfl⟩)
    · exact h.looked a b hab
    · rcases h.inv.out hwn how with h' | h' <;> exact .inr (by omega)
  · rintro a b (hab | ⟨rfl, rfl⟩) (hba | ⟨e1, e2⟩)
    · obtain ⟨a1, a2⟩ := h.outerF (h.sub a b hab).1
      obtain ⟨b1, b2⟩ := h.outerF (h.sub b a hba).1
      exact (h.both a b hab hba).imp_right fun e => hzo a a1 a2 b b1 b2 e
    · subst e1; subst e2
      exact .inr (hwb.trans hvb.symm)
    · exact .inr (hvb.trans hwb.symm)
    · subst e1; exact absurd (e2 ▸ hE) (hg.irr _)

/-- Where nothing waits, and all was looked at. -/
theorem SI.closed (hg : IsGr n E) (h : SI n E M S D F Lk) (hw : S.wait = []) (hall : ∀ v w, v ∈ F → E v w → Lk v w) : Closed E M S := by
  intro v w hE hv
  have hvn := hg.lt hE
  have hwn := hg.lt (hg.symm hE)
  have hvF : v ∈ F := by have := (h.mem v hvn).1 hv; rw [hw] at this; simpa using this
  have h1 := hall v w hvF hE
  rcases h.looked v w h1 with e | e
  · exact .inl e
  · by_cases hm : M v = some w
    · exact .inl hm
    · refine .inr ⟨e, fun ho => ?_⟩
      have hwF : w ∈ F := by have := (h.mem w hwn).1 ho; rw [hw] at this; simpa using this
      exact (h.both v w h1 (hall w v hwF (hg.symm hE))).resolve_left hm
end
end Go.Proofs.Ytgddfmfiiodgbaa

/- A search's steps, as the walk wants them. -/
namespace Go.Proofs.Ytgddfmfiiodgbaa
open Go Go.RowKit
set_option maxRecDepth 100000
set_option linter.unusedVariables false
set_option linter.unusedSimpArgs false

section
variable {n : Nat} {E : Nat → Nat → Prop} {M : Nat → Option Nat} {S S' : FoS} {D : Nat → Nat} {F : List Nat} {Lk : Nat → Nat → Prop}

theorem SI.irrel (h : SI n E M S D F Lk) (h1 : S'.label = S.label) (h2 : S'.outer = S.outer) (h3 : S'.pred = S.pred) (h4 : S'.root = S.root) (h5 : S'.bridge = S.bridge) (h6 : S'.cls = S.cls) (h7 : S'.base = S.base) (h8 : S'.wait = S.wait) : SI n E M S' D F Lk := by
  have hb : S'.bs = S.bs := by funext u; unfold FoS.bs; rw [h6, h7]
  exact ⟨h.inv.same h1 h2 h3 h4 h5 h6 h7, by rw [h8]; exact h.nd, by rw [h8, h2]; exact h.mem, by rw [h8]; exact h.lt, h.sub, by rw [h1]; exact h.looked, by rw [hb]; exact h.both⟩

theorem SI.wait_len (h : SI n E M S D F Lk) : S.wait.length ≤ n := length_le_of_nodup ((List.nodup_append.1 h.nd).2.1) (fun x hx => h.lt x (by simp [hx]))
theorem SI.F_len (h : SI n E M S D F Lk) : F.length ≤ n := length_le_of_nodup ((List.nodup_append.1 h.nd).1) (fun x hx => h.lt x (by simp [hx]))

/-- Two of one tree, of two blossoms. -/
theorem SI.meets (hg : IsGr n E) (hM : IsMat n E M) (h : SI n E M S D F Lk) {v u : Nat} (hv : v ∈ F) (hE : E v u) (hou : S.outer u = true) (hr : S.root v = S.root u) (ev : Nat → Int) :
    ∃ b X Y k k' S2, MeetP n M S b (S.bs v :: X) (S.bs u :: Y) ∧ b < n ∧ ShRun M n v u b ev k (S.bs v) { S with turn := S.turn + 1 } S2 ∧ S.wait.length + k ≤ 2 * n ∧ S2.wait.length + k' ≤ 2 * n ∧
      ∀ ev' : Nat → Int, ∃ S3, ShRun M n u v b ev' k' (S2.bs u) S2 S3 ∧ SI n E M S3 D F (LkP Lk v u) ∧ S3.gone = S.gone ∧ S3.looks = S.looks := by
  obtain ⟨hvn, hvo⟩ := h.outerF hv
  have hun := hg.lt (hg.symm hE)
  have hBv := h.inv.isB hvn hvo
  have hBu := h.inv.isB hun hou
  obtain ⟨lv, hcv⟩ := h.inv.ch hg hM _ _ (Nat.le_refl _) hBv
  obtain ⟨lu, hcu⟩ := h.inv.ch hg hM _ _ (Nat.le_refl _) hBu
  obtain ⟨a1, rv, e1, _, q1⟩ := h.inv.ch_last hg hM hcv hBv
  obtain ⟨a2, ru, e2, _, q2⟩ := h.inv.ch_last hg hM hcu hBu
  have hrr : rv = ru := by
    have p1 := (h.inv.bsout v hvn hvo).2.2.2.1
    have p2 := (h.inv.bsout u hun hou).2.2.2.1
    rw [q1] at p1
    rw [q2, ← hr, ← p1] at p2
    cases p2
    rfl
  have nu := h.inv.ch_nodup hg hM hcu hBu
  obtain ⟨b, xs, ys, r, f1, f2, hx, hy⟩ := hcv.meet hcu nu ⟨rv, by rw [e1]; simp, by rw [e2, hrr]; simp⟩
  have hP := MeetP.of hg hM h.inv hBv hBu (f1 ▸ hcv) (f2 ▸ hcu) (fun x hx' => by rw [← f2]; exact hx x hx') (fun y hy' => by rw [← f1]; exact hy y hy')
  obtain ⟨l1, k1⟩ := hcv.first
  obtain ⟨l2, k2⟩ := hcu.first
  rw [← f1, ← f2, k1, k2] at hP
  have hbn : b < n := hP.lX b hP.cX
  have hd : ∀ x ∈ xs, x ∉ ys := fun x hx1 hx2 => hx x hx1 (by rw [f2]; simp [hx2])
  subst f1
  subst f2
  have h' : SI n E M { S with turn := S.turn + 1 } D F Lk := h.irrel rfl rfl rfl rfl rfl rfl rfl rfl
  have chT : ∀ {c : Nat} {l : List Nat}, Ch M S c l → Ch M { S with turn := S.turn + 1 } c l := by
    intro c l hc
    induction hc with
    | root hm => exact .root hm
    | step hm _ ih => exact .step hm ih
  have hcv' := chT hcv
  have hcu' := chT hcu
  have nv := h.inv.ch_nodup hg hM hcv hBv
  have hxy : xs.length + ys.length ≤ n := by
    have := length_le_of_nodup (l := xs ++ ys) (n := n) (by
      rw [List.nodup_append]
      exact ⟨(List.nodup_append.1 nv).1, (List.nodup_append.1 nu).1, fun a ha b hb e => hd a ha (e ▸ hb)⟩) (fun x hx' => by
      rcases List.mem_append.1 hx' with e | e
      · exact (h.inv.ch_all hg hM hcv hBv x (by simp [e])).1.1
      · exact (h.inv.ch_all hg hM hcu hBu x (by simp [e])).1.1)
    simpa using this
  have hwl := h.wait_len
  have hmt : ∀ l : List Nat, (∀ x ∈ l, IsB n S x ∧ x ≠ b ∧ D b ≤ D x ∧ S.root x = S.root b ∧ ∃ m, M x = some m) → ∀ x ∈ l, ∃ m, M x = some m ∧ S.label m = 2 := by
    intro l hl x hx'
    obtain ⟨g1, g2, g3, g4, m, hm⟩ := hl x hx'
    exact ⟨m, hm, (h.inv.up hg hM g1.1 g1.2.1 g1.2.2 hm).2.2.1⟩
  have sx := (h.inv.side hg hM hvn hvo hcv).1
  have sy := (h.inv.side hg hM hun hou hcu).1
  have rx := shrL_rest (M := M) v u b ev xs { S with turn := S.turn + 1 } (hmt xs sx)
  obtain ⟨r1, r2, r3, r4, r5, r6, r7, r8, _⟩ := rx
  refine ⟨b, l1, l2, xs.length, ys.length, FoS.shrL M v u b ev xs { S with turn := S.turn + 1 }, hP, hbn, ?_, by omega, ?_, fun ev' => ?_⟩
  · exact (h'.inv.shut hg hM hvn hvo hun hou hcv' hcu' hd ev ev).1
  · rw [r8]
    simp
    omega
  · obtain ⟨_, hw, s2, J⟩ := h'.inv.shut hg hM hvn hvo hun hou hcv' hcu' hd ev ev'
    have ry := shrL_rest (M := M) u v b ev' ys (FoS.shrL M v u b ev xs { S with turn := S.turn + 1 }) (fun x hx' => by rw [r1]; exact hmt ys sy x hx')
    obtain ⟨q1, q2, q3, q4, q5, q6, q7, q8, _⟩ := ry
    refine ⟨FoS.shrL M u v b ev' ys (FoS.shrL M v u b ev xs { S with turn := S.turn + 1 }), by rw [hw]; exact s2, ?_, by rw [q4, r4], by rw [q7, r7]⟩
    exact h'.joined hg hM hv hE hou hcv' hcu' hd J (by rw [q8, r8]; simp)

/-- From one tree to another one. -/
theorem Seg.augW (hE : ∀ {a b}, E a b → E b a) (hM : ∀ {a b}, M a = some b → M b = some a) {v r : Nat} {pv : List Nat} (h : Seg E M v r pv) (hr : M r = none) : ∀ {w : Nat} {l : List Nat}, E v w → EvenW E M (w :: l) → (pv.reverse ++ w :: l).Nodup → AugW E M (pv.reverse ++ w :: l) := by
  induction h with
  | nil v => intro w l h1 h2 hn; exact ⟨v, w, l, rfl, hr, h1, h2, by simpa using hn⟩
  | @cons v m u t l2 h1 h2 h3 ih =>
    intro w l h4 h5 hn
    have := ih hr (hE h2) (.step (hM h1) h4 h5) (by simpa [List.append_assoc] using hn)
    simpa [List.append_assoc] using this

end
end Go.Proofs.Ytgddfmfiiodgbaa
