/- A blossom is shut: what always holds of trees with blossoms still does (no program in sight). -/
import Derived.Test.YtgddfmfiiodgbaaU13
namespace Go.Proofs.Ytgddfmfiiodgbaa
set_option linter.unusedVariables false
set_option linter.unusedSimpArgs false

/-- The mates of some. -/
def Mts (M : Nat → Option Nat) (l : List Nat) (u : Nat) : Prop := ∃ x ∈ l, M x = some u

/-- What a blossom's shutting leaves: its edge, its base, the bases on both sides below that. -/
structure JoinP (n : Nat) (M : Nat → Option Nat) (S S' : FoS) (v w b : Nat) (xs ys : List Nat) : Prop where
  label : S'.label = S.label
  pred : S'.pred = S.pred
  root : S'.root = S.root
  outer : ∀ u, S'.outer u = true ↔ S.outer u = true ∨ Mts M (xs ++ ys) u
  bridge0 : ∀ u, ¬ Mts M (xs ++ ys) u → S'.bridge u = S.bridge u
  bridge1 : ∀ u, Mts M xs u → S'.bridge u = (v, w)
  bridge2 : ∀ u, Mts M ys u → S'.bridge u = (w, v)
  bs1 : ∀ u, u < n → S.bs u ∈ xs ++ ys ∨ Mts M (xs ++ ys) u → S'.bs u = b
  bs0 : ∀ u, u < n → ¬ (S.bs u ∈ xs ++ ys ∨ Mts M (xs ++ ys) u) → S'.bs u = S.bs u
  inj : ∀ u u', u < n → u' < n → S'.bs u = S'.bs u' → S'.cls u = S'.cls u'

section
variable {n : Nat} {E : Nat → Nat → Prop} {M : Nat → Option Nat} {S S' : FoS} {D : Nat → Nat}

/-- What is known of the bases below another one. -/
theorem FInv.side (hg : IsGr n E) (hM : IsMat n E M) (h : FInv n E M S D) {v b : Nat} {xs r : List Nat} (hv : v < n) (ho : S.outer v = true) (hc : Ch M S (S.bs v) (xs ++ b :: r)) :
    (∀ x ∈ xs, IsB n S x ∧ x ≠ b ∧ D b ≤ D x ∧ S.root x = S.root b ∧ ∃ m, M x = some m) ∧ IsB n S b ∧ S.root v = S.root b := by
  have hB := h.isB hv ho
  have hall := h.ch_all hg hM hc hB
  have hnd := h.ch_nodup hg hM hc hB
  have hb := hall b (by simp)
  have hr : S.root v = S.root b := by rw [hb.2.2]; exact (h.bsout v hv ho).2.2.2.1.symm
  refine ⟨fun x hx => ?_, hb.1, hr⟩
  obtain ⟨l1, l2, rfl⟩ := List.append_of_mem hx
  have hxa := hall x (by simp)
  have hct := hc.tail (l1 := l1) (x := x) (l2 := l2 ++ b :: r) (by simp)
  refine ⟨hxa.1, ?_, ?_, by rw [hxa.2.2, hb.2.2], ?_⟩
  · rintro rfl
    rw [List.append_assoc, List.nodup_append] at hnd
    have := hnd.2.1
    simp at this
  · exact (h.ch_all hg hM hct hxa.1 b (by simp)).2.1
  · generalize hl : x :: (l2 ++ b :: r) = l at hct
    cases hct with
    | root hm => cases l2 <;> simp at hl
    | step hm _ => exact ⟨_, hm⟩

theorem JoinP.swap {v w b : Nat} {xs ys : List Nat} (J : JoinP n M S S' v w b xs ys) : JoinP n M S S' w v b ys xs := by
  have hm : ∀ u, Mts M (ys ++ xs) u ↔ Mts M (xs ++ ys) u := fun u => by
    unfold Mts
    constructor
    · rintro ⟨x, hx, h⟩; exact ⟨x, by simp at hx ⊢; exact hx.symm, h⟩
    · rintro ⟨x, hx, h⟩; exact ⟨x, by simp at hx ⊢; exact hx.symm, h⟩
  have hb : ∀ u, S.bs u ∈ ys ++ xs ↔ S.bs u ∈ xs ++ ys := fun u => by simp [Or.comm]
  refine ⟨J.label, J.pred, J.root, fun u => ?_, fun u hu => J.bridge0 u (by rwa [hm] at hu), J.bridge2, J.bridge1, fun u hu h => J.bs1 u hu (by rwa [hm, hb] at h), fun u hu h => J.bs0 u hu (by rwa [hm, hb] at h), J.inj⟩
  rw [J.outer, hm]

/-- The way from one that is outer anew. -/
theorem FInv.way_new (hg : IsGr n E) (hM : IsMat n E M) (h : FInv n E M S D) {v w b : Nat} {xs ys r : List Nat} (hv : v < n) (hov : S.outer v = true) (hw : w < n) (how : S.outer w = true) (hE : E v w)
    (hcv : Ch M S (S.bs v) (xs ++ b :: r)) (hcw : Ch M S (S.bs w) (ys ++ b :: r)) (hd : ∀ x ∈ xs, x ∉ ys) (J : JoinP n M S S' v w b xs ys) (hst : Stays M S S') {u z : Nat} (hz : z ∈ xs) (hm : M z = some u) :
    ∃ q, Way M S' u b q ∧ Seg E M u b q ∧ q.Nodup ∧ ∀ y ∈ q, y < n ∧ S'.outer y = true ∧ S'.bs y = b := by
  obtain ⟨sx, hb, _⟩ := h.side hg hM hv hov hcv
  obtain ⟨sy, _, _⟩ := h.side hg hM hw how hcw
  obtain ⟨z1, z2, z3, z4, _⟩ := sx z hz
  have hun := hM.lt (hM.symm hm)
  obtain ⟨_, u2, u3, _⟩ := h.up hg hM z1.1 z1.2.1 z1.2.2 hm
  obtain ⟨l1, c, rfl⟩ := List.append_of_mem hz
  have hndv := h.ch_nodup hg hM hcv (h.isB hv hov)
  have hcv' : Ch M S (S.bs v) (l1 ++ z :: (c ++ b :: r)) := by simpa using hcv
  obtain ⟨a, a1, a2, a3, a4⟩ := h.path_to hg hM l1 v z _ hv hov hcv'
  obtain ⟨a', b1, b2, b3, b4⟩ := h.path_to hg hM ys w b r hw how hcw
  have hMt : Mts M (l1 ++ z :: c ++ ys) u := ⟨z, by simp, hm⟩
  have hou : S'.outer u = true := (J.outer u).2 (.inr hMt)
  have hub : u ≠ b := fun e => by rw [e, hb.2.1] at u2; cases u2
  have hbr : S'.bridge u = (v, w) := J.bridge1 u ⟨z, by simp, hm⟩
  have hlu : S'.label u = 2 := by rw [J.label]; exact u3
  have hzl : z ∉ l1 := fun e => by
    rw [List.append_assoc, List.nodup_append] at hndv
    exact hndv.2.2 z e z (by simp) rfl
  refine ⟨u :: (a.reverse ++ a'), .odd hub hou hlu (hM.symm hm) (by rw [hbr]; exact a1.stays hst) (by rw [hbr]; exact b1.stays hst), a2.turn (fun e => hg.symm e) (fun e => hM.symm e) (hM.symm hm) hE b2, ?_, ?_⟩
  · have hua : u ∉ a := fun e => by
      rcases (a4 u e).2 with h' | ⟨_, z', hz', hz''⟩
      · rw [u2] at h'; cases h'.1
      · rw [hM.symm hm] at hz''; cases hz''; exact hzl hz'
    have hua' : u ∉ a' := fun e => by
      rcases (b4 u e).2 with h' | ⟨_, z', hz', hz''⟩
      · rw [u2] at h'; cases h'.1
      · rw [hM.symm hm] at hz''; cases hz''; exact hd z (by simp) hz'
    refine List.nodup_cons.2 ⟨by simp [hua, hua'], ?_⟩
    rw [List.nodup_append]
    refine ⟨by simpa [List.nodup_iff_pairwise_ne] using (List.pairwise_reverse.2 (a3.imp fun h => Ne.symm h)), b3, fun y hy y' hy' e => ?_⟩
    subst e
    rcases (a4 y (by simpa using hy)).2 with ⟨g1, g2⟩ | ⟨g1, g2⟩
    · rcases (b4 y hy').2 with ⟨k1, k2⟩ | ⟨k1, k2⟩
      · have hmem : S.bs y ∈ l1 ++ z :: c := by simp at g2 ⊢; rcases g2 with h | h <;> simp [h]
        simp only [List.mem_append, List.mem_singleton] at k2
        rcases k2 with k2 | k2
        · exact hd _ hmem k2
        · exact (sx _ hmem).2.1 k2
      · rw [g1] at k1; cases k1
    · rcases (b4 y hy').2 with ⟨k1, k2⟩ | ⟨k1, k2⟩
      · rw [g1] at k1; cases k1
      · obtain ⟨p, p1, p2⟩ := g2
        obtain ⟨p', p1', p2'⟩ := k2
        rw [p2] at p2'
        cases p2'
        exact hd p (by simp [p1]) p1'
  · intro y hy
    have key : ∀ full part, (∀ x ∈ full, x ∈ l1 ++ z :: c ++ ys ∨ x = b) → (∀ x ∈ part, x ∈ l1 ++ z :: c ++ ys) → Owned n M S full part y → y < n ∧ S'.outer y = true ∧ S'.bs y = b := by
      intro full part hf hp ⟨g1, g2⟩
      rcases g2 with ⟨g2, g3⟩ | ⟨g2, z', g3, g4⟩
      · refine ⟨g1, (J.outer y).2 (.inl g2), ?_⟩
        by_cases ht : S.bs y ∈ (l1 ++ z :: c) ++ ys ∨ Mts M ((l1 ++ z :: c) ++ ys) y
        · exact J.bs1 y g1 ht
        · rw [J.bs0 y g1 ht]
          rcases hf _ g3 with h' | h'
          · exact absurd (.inl h') ht
          · exact h'
      · have : Mts M (l1 ++ z :: c ++ ys) y := ⟨z', hp _ g3, hM.symm g4⟩
        exact ⟨g1, (J.outer y).2 (.inr this), J.bs1 y g1 (.inr this)⟩
    simp only [List.mem_cons, List.mem_append, List.mem_reverse] at hy
    rcases hy with rfl | hy | hy
    · exact ⟨hun, hou, J.bs1 _ hun (.inr hMt)⟩
    · exact key _ _ (fun x hx => by simp at hx ⊢; rcases hx with h | h <;> simp [h]) (fun x hx => by simp [hx]) (a4 y hy)
    · exact key _ _ (fun x hx => by simp at hx ⊢; rcases hx with h | h <;> simp [h]) (fun x hx => by simp [hx]) (b4 y hy)

/-- The way of one that was outer, in a blossom of one side. -/
theorem FInv.way_old (hg : IsGr n E) (hM : IsMat n E M) (h : FInv n E M S D) {v w b : Nat} {xs ys r : List Nat} (hv : v < n) (hov : S.outer v = true)
    (hcv : Ch M S (S.bs v) (xs ++ b :: r)) (J : JoinP n M S S' v w b xs ys) (hst : Stays M S S') {u : Nat} (hu : u < n) (hou : S.outer u = true) (hz : S.bs u ∈ xs) :
    ∃ q, Way M S' u b q ∧ Seg E M u b q ∧ q.Nodup ∧ ∀ y ∈ q, y < n ∧ S'.outer y = true ∧ S'.bs y = b := by
  obtain ⟨l1, c, hxs⟩ := List.append_of_mem hz
  have hct := hcv.tail (l1 := l1) (x := S.bs u) (l2 := c ++ b :: r) (by rw [hxs]; simp)
  obtain ⟨a, a1, a2, a3, a4⟩ := h.path_to hg hM (S.bs u :: c) u b r hu hou (by simpa using hct)
  refine ⟨a, a1.stays hst, a2, a3, fun y hy => ?_⟩
  obtain ⟨g1, g2⟩ := a4 y hy
  have hsub : ∀ x ∈ S.bs u :: c, x ∈ xs := fun x hx => by rw [hxs]; simp at hx ⊢; rcases hx with h | h <;> simp [h]
  rcases g2 with ⟨g2, g3⟩ | ⟨g2, z', g3, g4⟩
  · refine ⟨g1, (J.outer y).2 (.inl g2), ?_⟩
    by_cases ht : S.bs y ∈ xs ++ ys ∨ Mts M (xs ++ ys) y
    · exact J.bs1 y g1 ht
    · rw [J.bs0 y g1 ht]
      simp only [List.mem_append, List.mem_singleton] at g3
      rcases g3 with h' | h'
      · exact absurd (.inl (by simp [hsub _ h'])) ht
      · exact h'
  · have : Mts M (xs ++ ys) y := ⟨z', by simp [hsub _ g3], hM.symm g4⟩
    exact ⟨g1, (J.outer y).2 (.inr this), J.bs1 y g1 (.inr this)⟩

theorem FInv.join_stays (hg : IsGr n E) (hM : IsMat n E M) (h : FInv n E M S D) {v w b : Nat} {xs ys : List Nat} (hZ : ∀ x ∈ xs ++ ys, IsB n S x) (J : JoinP n M S S' v w b xs ys) : Stays M S S' := by
  refine ⟨fun u hu => (J.outer u).2 (.inl hu), fun u hu => by rw [J.label], fun u hu hl => J.bridge0 u ?_, fun u m hu hl hm => by rw [J.pred]⟩
  rintro ⟨z, hz, hm⟩
  have hb := hZ z hz
  have := (h.up hg hM hb.1 hb.2.1 hb.2.2 hm).2.1
  rw [hu] at this
  cases this

theorem FInv.join (hg : IsGr n E) (hM : IsMat n E M) (h : FInv n E M S D) {v w b : Nat} {xs ys r : List Nat} (hv : v < n) (hov : S.outer v = true) (hw : w < n) (how : S.outer w = true) (hE : E v w)
    (hcv : Ch M S (S.bs v) (xs ++ b :: r)) (hcw : Ch M S (S.bs w) (ys ++ b :: r)) (hd : ∀ x ∈ xs, x ∉ ys) (J : JoinP n M S S' v w b xs ys) : FInv n E M S' D := by
  obtain ⟨sx, hb, rv⟩ := h.side hg hM hv hov hcv
  obtain ⟨sy, _, rw'⟩ := h.side hg hM hw how hcw
  have hZ : ∀ x ∈ xs ++ ys, IsB n S x ∧ x ≠ b ∧ D b ≤ D x ∧ S.root x = S.root b ∧ ∃ m, M x = some m := fun x hx => by
    rcases List.mem_append.1 hx with h | h
    · exact sx x h
    · exact sy x h
  have hst := h.join_stays hg hM (fun x hx => (hZ x hx).1) J
  have hmt : ∀ u, Mts M (xs ++ ys) u → u < n ∧ S.outer u = false ∧ S.label u = 2 ∧ S.root u = S.root b := by
    rintro u ⟨z, hz, hm⟩
    obtain ⟨g1, g2, g3, g4, g5⟩ := hZ z hz
    obtain ⟨k1, k2, k3, k4, k5, k6, k7, k8, k9⟩ := h.up hg hM g1.1 g1.2.1 g1.2.2 hm
    exact ⟨k1, k2, k3, k7.trans g4⟩
  have hzo : ∀ u, u < n → S.bs u ∈ xs ++ ys → S.outer u = true := fun u hu hz => by
    have hB := (hZ _ hz).1
    cases ho : S.outer u with
    | true => rfl
    | false =>
      have := (h.sing u hu ho).1
      rw [this] at hB
      rw [hB.2.1] at ho
      cases ho
  have hbt : ¬ (S.bs b ∈ xs ++ ys ∨ Mts M (xs ++ ys) b) := by
    rintro (h' | h')
    · rw [hb.2.2] at h'
      exact (hZ b h').2.1 rfl
    · have := (hmt b h').2.1
      rw [hb.2.1] at this
      cases this
  have hb' : S'.bs b = b := (J.bs0 b hb.1 hbt).trans hb.2.2
  have hob' : S'.outer b = true := hst.outer b hb.2.1
  -- an untouched outer one
  have hun : ∀ u, u < n → ¬ (S.bs u ∈ xs ++ ys ∨ Mts M (xs ++ ys) u) → S'.outer u = true → S.outer u = true := fun u hu ht ho => by
    rcases (J.outer u).1 ho with h' | h'
    · exact h'
    · exact absurd (.inr h') ht
  refine ⟨?_, ?_, ?_, ?_, ?_, ?_, ?_, J.inj, ?_, ?_, ?_⟩
  · intro u hu; rw [J.label]; exact h.lab u hu
  · intro u hu hl
    rw [J.label] at hl
    have h1 := h.zero u hu hl
    cases ho : S'.outer u with
    | false => rfl
    | true =>
      rcases (J.outer u).1 ho with h' | h'
      · rw [h1] at h'; cases h'
      · have := (hmt u h').2.2.1; omega
  · intro u hu hf
    obtain ⟨f1, f2, f3⟩ := h.free u hu hf
    rw [J.label, J.root]
    refine ⟨f1, f2, ?_⟩
    rw [J.bs0 u hu, f3]
    rintro (h' | ⟨z, hz, hm⟩)
    · rw [f3] at h'
      obtain ⟨_, _, _, _, m, hm⟩ := hZ u h'
      rw [hf] at hm; cases hm
    · rw [hM.symm hm] at hf; cases hf
  · intro u hu hl
    rw [J.label] at hl ⊢
    obtain ⟨g1, g2⟩ := h.one u hu hl
    exact ⟨hst.outer u g1, g2⟩
  · intro u hu hl
    rw [J.label] at hl ⊢
    rw [J.pred, J.root]
    obtain ⟨x, g1, g2, g3, g4, g5, g6⟩ := h.two u hu hl
    exact ⟨x, g1, g2, hst.outer _ g3, g4, g5, g6⟩
  · intro u hu ho
    have hno : S.outer u = false := by
      cases h' : S.outer u with
      | false => rfl
      | true => rw [hst.outer u h'] at ho; cases ho
    have hnm : ¬ Mts M (xs ++ ys) u := fun h' => by rw [(J.outer u).2 (.inr h')] at ho; cases ho
    obtain ⟨s1, s2⟩ := h.sing u hu hno
    have hnz : ¬ (S.bs u ∈ xs ++ ys ∨ Mts M (xs ++ ys) u) := by
      rintro (h' | h')
      · rw [hzo u hu h'] at hno; cases hno
      · exact hnm h'
    refine ⟨(J.bs0 u hu hnz).trans s1, fun u' hu' he => ?_⟩
    by_cases ht : S.bs u' ∈ xs ++ ys ∨ Mts M (xs ++ ys) u'
    · rw [J.bs1 u' hu' ht] at he
      rw [← he, hb.2.1] at hno
      cases hno
    · rw [J.bs0 u' hu' ht] at he
      exact s2 u' hu' he
  · intro u hu ho
    by_cases ht : S.bs u ∈ xs ++ ys ∨ Mts M (xs ++ ys) u
    · rw [J.bs1 u hu ht, J.label, J.root]
      refine ⟨hb.1, hob', ?_, ?_, hb'⟩
      · have := (h.bsout b hb.1 hb.2.1).2.2.1; rwa [hb.2.2] at this
      · rcases ht with h' | h'
        · rw [← (h.bsout u hu (hzo u hu h')).2.2.2.1]
          exact (hZ _ h').2.2.2.1.symm
        · exact (hmt u h').2.2.2.symm
    · have ho0 := hun u hu ht ho
      obtain ⟨g1, g2, g3, g4, g5⟩ := h.bsout u hu ho0
      rw [J.bs0 u hu ht, J.label, J.root]
      refine ⟨g1, hst.outer _ g2, g3, g4, ?_⟩
      rw [J.bs0 _ g1, g5]
      rintro (h' | h')
      · rw [g5] at h'; exact ht (.inl h')
      · have := (hmt _ h').2.1; rw [g2] at this; cases this
  · intro x m hx hxo hxb hm
    by_cases ht : S.bs x ∈ xs ++ ys ∨ Mts M (xs ++ ys) x
    · rw [J.bs1 x hx ht] at hxb
      rw [← hxb] at ht
      exact absurd ht hbt
    · have ho0 := hun x hx ht hxo
      rw [J.bs0 x hx ht] at hxb
      obtain ⟨k1, k2, k3, k4, k5, k6, k7, k8, k9⟩ := h.up hg hM hx ho0 hxb hm
      refine ⟨?_, ?_⟩
      · cases ho : S'.outer m with
        | false => rfl
        | true =>
          rcases (J.outer m).1 ho with h' | ⟨z, hz, hzm⟩
          · rw [k2] at h'; cases h'
          · have e := hM.symm hzm
            rw [hM.symm hm] at e
            cases e
            exact absurd (.inl (by rw [hxb]; exact hz)) ht
      · rw [J.pred]
        by_cases ht' : S.bs (S.pred m) ∈ xs ++ ys ∨ Mts M (xs ++ ys) (S.pred m)
        · rw [J.bs1 _ k5 ht']
          rcases ht' with h' | h'
          · have := (hZ _ h').2.2.1
            omega
          · have := (hmt _ h').2.1
            rw [k4] at this; cases this
        · rw [J.bs0 _ k5 ht']; exact k9
  · intro x hx hxo hxb
    by_cases ht : S.bs x ∈ xs ++ ys ∨ Mts M (xs ++ ys) x
    · rw [J.bs1 x hx ht] at hxb ⊢
      rcases ht with h' | ⟨z, hz, hm⟩
      · by_cases hxx : S.bs x = x
        · rw [hxx] at h'
          obtain ⟨_, _, _, _, m, hm⟩ := hZ x h'
          have hMt : Mts M (xs ++ ys) m := ⟨x, h', hm⟩
          exact ⟨m, hm, (J.outer m).2 (.inr hMt), J.bs1 m (hmt m hMt).1 (.inr hMt)⟩
        · obtain ⟨m, g1, g2, g3⟩ := h.inm x hx (hzo x hx h') hxx
          exact ⟨m, g1, hst.outer m g2, J.bs1 m (hM.lt (hM.symm g1)) (.inl (by rw [g3]; exact h'))⟩
      · have hzB := (hZ z hz).1
        exact ⟨z, hM.symm hm, hst.outer z hzB.2.1, J.bs1 z hzB.1 (.inl (by rw [hzB.2.2]; exact hz))⟩
    · have ho0 := hun x hx ht hxo
      rw [J.bs0 x hx ht] at hxb ⊢
      obtain ⟨m, g1, g2, g3⟩ := h.inm x hx ho0 hxb
      refine ⟨m, g1, hst.outer m g2, ?_⟩
      rw [J.bs0 m (hM.lt (hM.symm g1)), g3]
      rintro (h' | h')
      · rw [g3] at h'; exact ht (.inl h')
      · have := (hmt _ h').2.1; rw [g2] at this; cases this
  · intro u hu ho
    by_cases ht : S.bs u ∈ xs ++ ys ∨ Mts M (xs ++ ys) u
    · rw [J.bs1 u hu ht]
      rcases ht with h' | ⟨z, hz, hm⟩
      · have ho0 := hzo u hu h'
        rcases List.mem_append.1 h' with h' | h'
        · exact h.way_old hg hM hv hov hcv J hst hu ho0 h'
        · exact h.way_old hg hM hw how hcw J.swap hst hu ho0 h'
      · rcases List.mem_append.1 hz with hz | hz
        · exact h.way_new hg hM hv hov hw how hE hcv hcw hd J hst hz hm
        · exact h.way_new hg hM hw how hv hov (hg.symm hE) hcw hcv (fun x hx hx' => hd x hx' hx) J.swap hst hz hm
    · have ho0 := hun u hu ht ho
      rw [J.bs0 u hu ht]
      obtain ⟨q, q1, q2, q3, q4⟩ := h.way u hu ho0
      refine ⟨q, q1.stays hst, q2, q3, fun y hy => ?_⟩
      obtain ⟨g1, g2, g3⟩ := q4 y hy
      refine ⟨g1, hst.outer y g2, ?_⟩
      rw [J.bs0 y g1, g3]
      rintro (h' | h')
      · rw [g3] at h'; exact ht (.inl h')
      · have := (hmt _ h').2.1; rw [g2] at this; cases this
end
end Go.Proofs.Ytgddfmfiiodgbaa
