/- Right graphs: what 'rightB' says, and that an edge put among the others leaves one. -/
import Derived.Test.YtglhdoibglafbaaG0
namespace Go.Proofs.Ytglhdoibglafbaa
set_option maxRecDepth 100000
set_option linter.unusedVariables false

def LtE (d e : Int × Int) : Prop := d.1 < e.1 ∨ (d.1 = e.1 ∧ d.2 < e.2)
theorem cmpE_lt (a b c d : Int) : cmpE a b c d < 0 ↔ LtE (a, b) (c, d) := by
  have := ahead_cmp a b c d
  rw [decide_eq_decide] at this
  exact this.symm
theorem LtE.trans {a b c : Int × Int} (h : LtE a b) (k : LtE b c) : LtE a c := by unfold LtE at *; omega
theorem LtE.irrefl (a : Int × Int) : ¬ LtE a a := by unfold LtE; omega
theorem LtE.or {a b : Int × Int} (h : ¬ LtE a b) : a = b ∨ LtE b a := by
  unfold LtE at *
  by_cases h1 : a.1 = b.1
  · by_cases h2 : a.2 = b.2
    · exact .inl (Prod.ext h1 h2)
    · omega
  · omega
theorem ltE_iff (d e : Int × Int) : ltE d e = true ↔ LtE d e := by
  unfold ltE
  rw [decide_eq_true_iff]
  exact cmpE_lt _ _ _ _

structure RightP (n : Int) (es : List (Int × Int)) : Prop where
  n0 : 0 ≤ n
  n1 : n ≤ 4096
  len : es.length ≤ 65536
  ok : ∀ e ∈ es, 0 ≤ e.1 ∧ e.1 < e.2 ∧ e.2 < n
  inc : es.Pairwise LtE

theorem right_iff (n : Int) (es : List (Int × Int)) : rightB n es = true ↔ RightP n es := by
  constructor
  · intro h
    unfold rightB at h
    simp only [Bool.and_eq_true, decide_eq_true_eq, List.all_eq_true, List.mem_range] at h
    obtain ⟨⟨⟨h0, h1⟩, h2⟩, h3⟩ := h
    have hs : ∀ k (hk : k < es.length), (0 ≤ (es[k]).1 ∧ (es[k]).1 < (es[k]).2 ∧ (es[k]).2 < n) ∧ (0 < k → LtE (es[k - 1]'(by omega)) es[k]) := by
      intro k hk
      have := h3 k hk
      unfold okAt at this
      rw [List.getElem?_eq_getElem hk] at this
      simp only [Bool.and_eq_true, decide_eq_true_eq, Bool.or_eq_true, beq_iff_eq] at this
      refine ⟨⟨this.1.1.1, this.1.1.2, this.1.2⟩, fun hk0 => ?_⟩
      rcases this.2 with h | h
      · omega
      · rw [List.getElem?_eq_getElem (by omega : k - 1 < es.length)] at h
        simp only [decide_eq_true_eq] at h
        exact (cmpE_lt _ _ _ _).1 h
    refine ⟨h0, h1, h2, fun e he => ?_, ?_⟩
    · obtain ⟨k, hk, rfl⟩ := List.getElem_of_mem he
      exact (hs k hk).1
    · rw [List.pairwise_iff_getElem]
      have key : ∀ d i j (hi : i < es.length) (hj : j < es.length), i + 1 + d = j → LtE es[i] es[j] := by
        intro d
        induction d with
        | zero =>
          intro i j hi hj hij
          subst hij
          exact (hs (i + 1) hj).2 (by omega)
        | succ d ih =>
          intro i j hi hj hij
          have h1 := ih i (j - 1) hi (by omega) (by omega)
          exact h1.trans ((hs j hj).2 (by omega))
      intro i j hi hj hij
      exact key (j - i - 1) i j hi hj (by omega)
  · rintro ⟨h0, h1, h2, h3, h4⟩
    refine right_yes n es h0 h1 h2 fun j hj => ?_
    have hj3 := h3 _ (List.getElem_mem hj)
    unfold okAt
    rw [List.getElem?_eq_getElem hj]
    simp only [Bool.and_eq_true, decide_eq_true_eq, Bool.or_eq_true, beq_iff_eq]
    refine ⟨⟨⟨hj3.1, hj3.2.1⟩, hj3.2.2⟩, ?_⟩
    by_cases hz : j = 0
    · exact .inl hz
    · right
      rw [List.getElem?_eq_getElem (by omega : j - 1 < es.length)]
      simp only [decide_eq_true_eq]
      exact (cmpE_lt _ _ _ _).2 (List.pairwise_iff_getElem.1 h4 (j - 1) j (by omega) hj (by omega))

theorem findE_mem (es : List (Int × Int)) (e : Int × Int) : 0 ≤ findE es e ↔ e ∈ es := by
  unfold findE
  constructor
  · intro h
    cases hf : es.findIdx? (fun x => decide (x = e)) with
    | none => rw [hf] at h; simp at h
    | some k =>
      obtain ⟨hk, h1, _⟩ := List.findIdx?_eq_some_iff_getElem.1 hf
      simp at h1
      exact h1 ▸ List.getElem_mem hk
  · intro h
    cases hf : es.findIdx? (fun x => decide (x = e)) with
    | none =>
      have := List.findIdx?_eq_none_iff.1 hf e h
      simp at this
    | some k => simp
theorem hasB_iff {n : Int} {es : List (Int × Int)} (hr : rightB n es = true) (a b : Int) : hasB n es a b = true ↔ (min a b, max a b) ∈ es := by
  unfold hasB indexB
  rw [if_pos hr, decide_eq_true_iff]
  exact findE_mem _ _

theorem putK_spec (es : List (Int × Int)) (e : Int × Int) : ∀ m, m ≤ es.length → (∀ i (hi : i < es.length), putK es e m ≤ i → i < m → LtE e es[i]) ∧ (∀ i (hi : i < es.length), i + 1 = putK es e m → ¬ LtE e es[i]) := by
  intro m
  induction m with
  | zero => intro _; exact ⟨fun i hi h h' => by omega, fun i hi h => by simp [putK] at h⟩
  | succ k ih =>
    intro hk
    obtain ⟨g1, g2⟩ := ih (by omega)
    have hkl : k < es.length := by omega
    unfold putK
    rw [List.getElem?_eq_getElem hkl]
    by_cases h : ltE e es[k] = true
    · simp only [h, if_true]
      refine ⟨fun i hi h1 h2 => ?_, g2⟩
      by_cases hik : i = k
      · subst hik; exact (ltE_iff _ _).1 h
      · exact g1 i hi h1 (by omega)
    · simp only [h]
      refine ⟨fun i hi h1 h2 => ?_, fun i hi h1 => ?_⟩
      · simp at h1; omega
      · simp at h1
        subst h1
        exact fun h' => h ((ltE_iff _ _).2 h')

theorem mem_putE (es : List (Int × Int)) (e x : Int × Int) : x ∈ putE es e ↔ x = e ∨ x ∈ es := by
  unfold putE
  rw [List.mem_append, List.mem_cons]
  constructor
  · rintro (h | h | h)
    · exact .inr (List.mem_of_mem_take h)
    · exact .inl h
    · exact .inr (List.mem_of_mem_drop h)
  · rintro (h | h)
    · exact .inr (.inl h)
    · rw [← List.take_append_drop (putK es e es.length) es] at h
      rcases List.mem_append.1 h with h | h
      · exact .inl h
      · exact .inr (.inr h)
theorem putE_length (es : List (Int × Int)) (e : Int × Int) : (putE es e).length = es.length + 1 := by
  have := putK_le es e es.length
  unfold putE
  simp
  omega

theorem right_put {n : Int} {es : List (Int × Int)} (h : RightP n es) {e : Int × Int} (he : 0 ≤ e.1 ∧ e.1 < e.2 ∧ e.2 < n) (hn : e ∉ es) (hl : es.length < 65536) : RightP n (putE es e) := by
  refine ⟨h.n0, h.n1, by rw [putE_length]; omega, fun x hx => ?_, ?_⟩
  · rcases (mem_putE _ _ _).1 hx with rfl | hx
    · exact he
    · exact h.ok x hx
  · obtain ⟨g1, g2⟩ := putK_spec es e es.length (Nat.le_refl _)
    have hk := putK_le es e es.length
    have hp := h.inc
    unfold putE
    generalize putK es e es.length = k at *
    rw [← List.take_append_drop k es] at hp
    rw [List.pairwise_append] at hp ⊢
    obtain ⟨p1, p2, p3⟩ := hp
    have hlow : ∀ x ∈ es.take k, LtE x e := by
      intro x hx
      obtain ⟨i, hi, rfl⟩ := List.getElem_of_mem hx
      simp at hi
      rw [List.getElem_take]
      have hlast : LtE (es[k - 1]'(by omega)) e := by
        rcases LtE.or (g2 (k - 1) (by omega) (by omega)) with h' | h'
        · exact absurd (h' ▸ List.getElem_mem _) hn
        · exact h'
      by_cases hik : i = k - 1
      · subst hik; exact hlast
      · exact (List.pairwise_iff_getElem.1 h.inc i (k - 1) (by omega) (by omega) (by omega)).trans hlast
    have hhigh : ∀ x ∈ es.drop k, LtE e x := by
      intro x hx
      obtain ⟨i, hi, rfl⟩ := List.getElem_of_mem hx
      rw [List.getElem_drop]
      simp at hi
      exact g1 (k + i) (by omega) (by omega) (by omega)
    refine ⟨p1, ?_, ?_⟩
    · rw [List.pairwise_cons]
      exact ⟨hhigh, p2⟩
    · intro x hx y hy
      rcases List.mem_cons.1 hy with rfl | hy
      · exact hlow x hx
      · exact p3 x hx y hy

/-- Where Add answers 0, the graph with an edge more is right. -/
theorem addErr_zero {n : Int} {es : List (Int × Int)} {a b : Int} (h : addErr n es a b = 0) :
    RightP n es ∧ RightP n (putE es (min a b, max a b)) ∧ (min a b, max a b) ∉ es ∧ 0 ≤ min a b ∧ min a b < max a b ∧ max a b < n := by
  unfold addErr at h
  by_cases h1 : rightB n es = false
  · rw [if_pos h1] at h; omega
  rw [if_neg h1] at h
  by_cases h2 : isB n a = false
  · rw [if_pos h2] at h; omega
  rw [if_neg h2] at h
  by_cases h3 : isB n b = false
  · rw [if_pos h3] at h; omega
  rw [if_neg h3] at h
  by_cases h4 : a = b
  · rw [if_pos h4] at h; omega
  rw [if_neg h4] at h
  by_cases h5 : hasB n es a b = true
  · rw [if_pos h5] at h; omega
  rw [if_neg h5] at h
  by_cases h6 : 65536 ≤ es.length
  · rw [if_pos h6] at h; omega
  have hr : rightB n es = true := by simpa using h1
  have hR := (right_iff n es).1 hr
  have hm : (min a b, max a b) ∉ es := fun hm => h5 ((hasB_iff hr a b).2 hm)
  have ha : 0 ≤ a ∧ a < n := by unfold isB at h2; simpa using h2
  have hb : 0 ≤ b ∧ b < n := by unfold isB at h3; simpa using h3
  have e : 0 ≤ min a b ∧ min a b < max a b ∧ max a b < n := by omega
  exact ⟨hR, right_put hR e hm (by omega), hm, e⟩
end Go.Proofs.Ytglhdoibglafbaa
