/- Graphs as rows of edges: what is right, where an edge is, an edge among some: plain, no program in sight. -/

namespace Go.Proofs.Ytgddfmfiiodgbaa
set_option maxRecDepth 100000
set_option linter.unusedVariables false
set_option linter.unusedSimpArgs false

def cmpE (a b c d : Int) : Int := if a < c then -1 else if c < a then 1 else if b < d then -1 else if d < b then 1 else 0
theorem cmpE_eq (a b c d : Int) : (if (if a < c then (-1 : Int) else if c < a then 1 else 0) = 0 then (if b < d then (-1 : Int) else if d < b then 1 else 0) else (if a < c then -1 else if c < a then 1 else 0)) = cmpE a b c d := by
  unfold cmpE
  by_cases h1 : a < c
  · simp [h1]
  · by_cases h2 : c < a
    · simp [h1, h2]
    · simp [h1, h2]


theorem ahead_cmp (a b c d : Int) : decide (a < c ∨ a = c ∧ b < d) = decide (cmpE a b c d < 0) := by
  unfold cmpE
  by_cases h1 : a < c
  · simp [h1]
  · by_cases h2 : c < a
    · simp [h1, h2]; omega
    · obtain rfl : a = c := by omega
      by_cases h3 : b < d
      · simp [h3]
      · by_cases h4 : d < b
        · simp [h3, h4]
        · simp [h3, h4]


/-- Is place k of a row of edges as it should be? -/
def okAt (n : Int) (es : List (Int × Int)) (k : Nat) : Bool :=
  match es[k]? with
  | none => true
  | some e => decide (0 ≤ e.1) && decide (e.1 < e.2) && decide (e.2 < n) && (k == 0 || match es[k - 1]? with | none => true | some d => decide (cmpE d.1 d.2 e.1 e.2 < 0))
def rightB (n : Int) (es : List (Int × Int)) : Bool := decide (0 ≤ n) && decide (n ≤ 4096) && decide (es.length ≤ 65536) && (List.range es.length).all fun k => okAt n es k

theorem okAt_no {n : Int} {es : List (Int × Int)} {k : Nat} {x y : Int} (h : es[k]? = some (x, y)) (hb : x < 0 ∨ y ≤ x ∨ n ≤ y) : okAt n es k = false := by
  unfold okAt
  rw [h]
  simp
  omega
theorem okAt_zero {n : Int} {es : List (Int × Int)} {x y : Int} (h : es[0]? = some (x, y)) (h1 : 0 ≤ x) (h2 : x < y) (h3 : y < n) : okAt n es 0 = true := by
  unfold okAt
  rw [h]
  simp [h1, h2, h3]
theorem okAt_succ {n : Int} {es : List (Int × Int)} {k : Nat} {x y x' y' : Int} (h : es[k + 1]? = some (x, y)) (h' : es[k]? = some (x', y')) (h1 : 0 ≤ x) (h2 : x < y) (h3 : y < n) : okAt n es (k + 1) = decide (cmpE x' y' x y < 0) := by
  unfold okAt
  rw [h]
  simp [h1, h2, h3, h']
theorem one_ok {p : Nat → Prop} (h : p 0) : ∀ j, j < 1 → p j := fun j hj => by
  obtain rfl : j = 0 := by omega
  exact h
theorem succ_ok {p : Nat → Prop} {k : Nat} (h : ∀ j, j < k → p j) (hk : p k) : ∀ j, j < k + 1 → p j := fun j hj => by
  by_cases e : j = k
  · subst e; exact hk
  · exact h j (by omega)
theorem right_yes (n : Int) (es : List (Int × Int)) (h0 : 0 ≤ n) (h1 : n ≤ 4096) (h2 : es.length ≤ 65536) (h : ∀ j, j < es.length → okAt n es j = true) : rightB n es = true := by
  unfold rightB
  have : (List.range es.length).all (fun k => okAt n es k) = true := by
    rw [List.all_eq_true]
    intro k hk
    exact h k (by simpa using hk)
  rw [this]
  simp [h0, h1, h2]
theorem right_no (n : Int) (es : List (Int × Int)) (k : Nat) (hk : k < es.length) (h : okAt n es k = false) : rightB n es = false := by
  unfold rightB
  have : (List.range es.length).all (fun k => okAt n es k) = false := by
    rw [List.all_eq_false]
    exact ⟨k, by simpa using hk, by simp [h]⟩
  rw [this]
  simp


/-- Where an edge is: the place of the first pair that it is. -/
def findE (es : List (Int × Int)) (e : Int × Int) : Int := match es.findIdx? (fun x => decide (x = e)) with | some i => i | none => -1
def indexB (n : Int) (es : List (Int × Int)) (a b : Int) : Int := if rightB n es = true then findE es (min a b, max a b) else -1
theorem findE_no (es : List (Int × Int)) (e : Int × Int) (h : ∀ j, j < es.length → es[j]? ≠ some e) : findE es e = -1 := by
  unfold findE
  rw [List.findIdx?_eq_none_iff.2 (fun x hx => by
    obtain ⟨j, hj, rfl⟩ := List.getElem_of_mem hx
    have := h j hj
    rw [List.getElem?_eq_getElem hj] at this
    simpa using this)]
theorem findE_yes (es : List (Int × Int)) (e : Int × Int) (k : Nat) (hk : es[k]? = some e) (h : ∀ j, j < k → es[j]? ≠ some e) : findE es e = k := by
  unfold findE
  obtain ⟨hkl, hke⟩ := List.getElem?_eq_some_iff.1 hk
  have : es.findIdx? (fun x => decide (x = e)) = some k := by
    rw [List.findIdx?_eq_some_iff_getElem]
    refine ⟨hkl, by simp [hke], fun j hj => ?_⟩
    have := h j hj
    have hjl : j < es.length := by omega
    rw [List.getElem?_eq_getElem hjl] at this
    simpa using this
  rw [this]


def hasB (n : Int) (es : List (Int × Int)) (a b : Int) : Bool := decide (0 ≤ indexB n es a b)

def ltE (d e : Int × Int) : Bool := decide (cmpE d.1 d.2 e.1 e.2 < 0)
/-- From place k down: the place behind the last one that does not stand behind e. -/
def putK (es : List (Int × Int)) (e : Int × Int) : Nat → Nat
  | 0 => 0
  | k + 1 => match es[k]? with
    | some d => if ltE e d = true then putK es e k else k + 1
    | none => k + 1
def putE (es : List (Int × Int)) (e : Int × Int) : List (Int × Int) := es.take (putK es e es.length) ++ e :: es.drop (putK es e es.length)
theorem putK_le (es : List (Int × Int)) (e : Int × Int) (k : Nat) : putK es e k ≤ k := by
  induction k with
  | zero => exact Nat.le_refl _
  | succ k ih =>
    unfold putK
    split
    · split
      · omega
      · omega
    · omega


def isB (n a : Int) : Bool := decide (0 ≤ a ∧ a < n)
def addErr (n : Int) (es : List (Int × Int)) (a b : Int) : Int :=
  if rightB n es = false then 3 else if isB n a = false then 4 else if isB n b = false then 4 else if a = b then 5 else if hasB n es a b = true then 6 else if 65536 ≤ es.length then 8 else 0


end Go.Proofs.Ytgddfmfiiodgbaa

/- Right graphs: what 'rightB' says, and that an edge put among the others leaves one. -/
namespace Go.Proofs.Ytgddfmfiiodgbaa
set_option maxRecDepth 100000
set_option linter.unusedVariables false
set_option linter.unusedSimpArgs false

def LtE (d e : Int × Int) : Prop := d.1 < e.1 ∨ (d.1 = e.1 ∧ d.2 < e.2)
theorem cmpE_lt (a b c d : Int) : cmpE a b c d < 0 ↔ LtE (a, b) (c, d) := by
  have := ahead_cmp a b c d
  rw [decide_eq_decide] at this
  exact this.symm
theorem LtE.trans {a b c : Int × Int} (h : LtE a b) (k : LtE b c) : LtE a c := by unfold LtE at *; omega
theorem LtE.irrefl (a : Int × Int) : ¬ LtE a a := by unfold LtE; omega
theorem LtE.or {a b : Int × Int} (h : ¬ LtE a b) : a = b ∨ LtE b a := by
  unfold LtE at *
  by_cases h1 : a.1 = b.1
  · by_cases h2 : a.2 = b.2
    · exact .inl (Prod.ext h1 h2)
    · omega
  · omega
theorem ltE_iff (d e : Int × Int) : ltE d e = true ↔ LtE d e := by
  unfold ltE
  rw [decide_eq_true_iff]
  exact cmpE_lt _ _ _ _

structure RightP (n : Int) (es : List (Int × Int)) : Prop where
  n0 : 0 ≤ n
  n1 : n ≤ 4096
  len : es.length ≤ 65536
  ok : ∀ e ∈ es, 0 ≤ e.1 ∧ e.1 < e.2 ∧ e.2 < n
  inc : es.Pairwise LtE

theorem right_iff (n : Int) (es : List (Int × Int)) : rightB n es = true ↔ RightP n es := by
  constructor
  · intro h
    unfold rightB at h
    simp only [Bool.and_eq_true, decide_eq_true_eq, List.all_eq_true, List.mem_range] at h
    obtain ⟨⟨⟨h0, h1⟩, h2⟩, h3⟩ := h
    have hs : ∀ k (hk : k < es.length), (0 ≤ (es[k]).1 ∧ (es[k]).1 < (es[k]).2 ∧ (es[k]).2 < n) ∧ (0 < k → LtE (es[k - 1]'(by omega)) es[k]) := by
      intro k hk
      have := h3 k hk
      unfold okAt at this
      rw [List.getElem?_eq_getElem hk] at this
      simp only [Bool.and_eq_true, decide_eq_true_eq, Bool.or_eq_true, beq_iff_eq] at this
      refine ⟨⟨this.1.1.1, this.1.1.2, this.1.2⟩, fun hk0 => ?_⟩
      rcases this.2 with h | h
      · omega
      · rw [List.getElem?_eq_getElem (by omega : k - 1 < es.length)] at h
        simp only [decide_eq_true_eq] at h
        exact (cmpE_lt _ _ _ _).1 h
    refine ⟨h0, h1, h2, fun e he => ?_, ?_⟩
    · obtain ⟨k, hk, rfl⟩ := List.getElem_of_mem he
      exact (hs k hk).1
    · rw [List.pairwise_iff_getElem]
      have key : ∀ d i j (hi : i < es.length) (hj : j < es.length), i + 1 + d = j → LtE es[i] es[j] := by
        intro d
        induction d with
        | zero =>
          intro i j hi hj hij
          subst hij
          exact (hs (i + 1) hj).2 (by omega)
        | succ d ih =>
          intro i j hi hj hij
          have h1 := ih i (j - 1) hi (by omega) (by omega)
          exact h1.trans ((hs j hj).2 (by omega))
      intro i j hi hj hij
      exact key (j - i - 1) i j hi hj (by omega)
  · rintro ⟨h0, h1, h2, h3, h4⟩
    refine right_yes n es h0 h1 h2 fun j hj => ?_
    have hj3 := h3 _ (List.getElem_mem hj)
    unfold okAt
    rw [List.getElem?_eq_getElem hj]
    simp only [Bool.and_eq_true, decide_eq_true_eq, Bool.or_eq_true, beq_iff_eq]
    refine ⟨⟨⟨hj3.1, hj3.2.1⟩, hj3.2.2⟩, ?_⟩
    by_cases hz : j = 0
    · exact .inl hz
    · right
      rw [List.getElem?_eq_getElem (by omega : j - 1 < es.length)]
      simp only [decide_eq_true_eq]
      exact (cmpE_lt _ _ _ _).2 (List.pairwise_iff_getElem.1 h4 (j - 1) j (by omega) hj (by omega))

theorem findE_mem (es : List (Int × Int)) (e : Int × Int) : 0 ≤ findE es e ↔ e ∈ es := by
  unfold findE
  constructor
  · intro h
    cases hf : es.findIdx? (fun x => decide (x = e)) with
    | none => rw [hf] at h; simp at h
    | some k =>
      obtain ⟨hk, h1, _⟩ := List.findIdx?_eq_some_iff_getElem.1 hf
      simp at h1
      exact h1 ▸ List.getElem_mem hk
  · intro h
    cases hf : es.findIdx? (fun x => decide (x = e)) with
    | none =>
      have := List.findIdx?_eq_none_iff.1 hf e h
      simp at this
    | some k => simp
theorem hasB_iff {n : Int} {es : List (Int × Int)} (hr : rightB n es = true) (a b : Int) : hasB n es a b = true ↔ (min a b, max a b) ∈ es := by
  unfold hasB indexB
  rw [if_pos hr, decide_eq_true_iff]
  exact findE_mem _ _

theorem putK_spec (es : List (Int × Int)) (e : Int × Int) : ∀ m, m ≤ es.length → (∀ i (hi : i < es.length), putK es e m ≤ i → i < m → LtE e es[i]) ∧ (∀ i (hi : i < es.length), i + 1 = putK es e m → ¬ LtE e es[i]) := by
  intro m
  induction m with
  | zero => intro _; exact ⟨fun i hi h h' => by omega, fun i hi h => by simp [putK] at h⟩
  | succ k ih =>
    intro hk
    obtain ⟨g1, g2⟩ := ih (by omega)
    have hkl : k < es.length := by omega
    unfold putK
    rw [List.getElem?_eq_getElem hkl]
    by_cases h : ltE e es[k] = true
    · simp only [h, if_true]
      refine ⟨fun i hi h1 h2 => ?_, g2⟩
      by_cases hik : i = k
      · subst hik; exact (ltE_iff _ _).1 h
      · exact g1 i hi h1 (by omega)
    · simp only [h]
      refine ⟨fun i hi h1 h2 => ?_, fun i hi h1 => ?_⟩
      · simp at h1; omega
      · simp at h1
        subst h1
        exact fun h' => h ((ltE_iff _ _).2 h')

theorem mem_putE (es : List (Int × Int)) (e x : Int × Int) : x ∈ putE es e ↔ x = e ∨ x ∈ es := by
  unfold putE
  rw [List.mem_append, List.mem_cons]
  constructor
  · rintro (h | h | h)
    · exact .inr (List.mem_of_mem_take h)
    · exact .inl h
    · exact .inr (List.mem_of_mem_drop h)
  · rintro (h | h)
    · exact .inr (.inl h)
    · rw [← List.take_append_drop (putK es e es.length) es] at h
      rcases List.mem_append.1 h with h | h
      · exact .inl h
      · exact .inr (.inr h)
theorem putE_length (es : List (Int × Int)) (e : Int × Int) : (putE es e).length = es.length + 1 := by
  have := putK_le es e es.length
  unfold putE
  simp
  omega

theorem right_put {n : Int} {es : List (Int × Int)} (h : RightP n es) {e : Int × Int} (he : 0 ≤ e.1 ∧ e.1 < e.2 ∧ e.2 < n) (hn : e ∉ es) (hl : es.length < 65536) : RightP n (putE es e) := by
  refine ⟨h.n0, h.n1, by rw [putE_length]; omega, fun x hx => ?_, ?_⟩
  · rcases (mem_putE _ _ _).1 hx with rfl | hx
    · exact he
    · exact h.ok x hx
  · obtain ⟨g1, g2⟩ := putK_spec es e es.length (Nat.le_refl _)
    have hk := putK_le es e es.length
    have hp := h.inc
    unfold putE
    generalize putK es e es.length = k at *
    rw [← List.take_append_drop k es] at hp
    rw [List.pairwise_append] at hp ⊢
    obtain ⟨p1, p2, p3⟩ := hp
    have hlow : ∀ x ∈ es.take k, LtE x e := by
      intro x hx
      obtain ⟨i, hi, rfl⟩ := List.getElem_of_mem hx
      simp at hi
      rw [List.getElem_take]
      have hlast : LtE (es[k - 1]'(by omega)) e := by
        rcases LtE.or (g2 (k - 1) (by omega) (by omega)) with h' | h'
        · exact absurd (h' ▸ List.getElem_mem _) hn
        · exact h'
      by_cases hik : i = k - 1
      · subst hik; exact hlast
      · exact (List.pairwise_iff_getElem.1 h.inc i (k - 1) (by omega) (by omega) (by omega)).trans hlast
    have hhigh : ∀ x ∈ es.drop k, LtE e x := by
      intro x hx
      obtain ⟨i, hi, rfl⟩ := List.getElem_of_mem hx
      rw [List.getElem_drop]
      simp at hi
      exact g1 (k + i) (by omega) (by omega) (by omega)
    refine ⟨p1, ?_, ?_⟩
    · rw [List.pairwise_cons]
      exact ⟨hhigh, p2⟩
    · intro x hx y hy
      rcases List.mem_cons.1 hy with rfl | hy
      · exact hlow x hx
      · exact p3 x hx y hy

/-- Where Add answers 0, the graph with an edge more is right. -/
theorem addErr_zero {n : Int} {es : List (Int × Int)} {a b : Int} (h : addErr n es a b = 0) :
    RightP n es ∧ RightP n (putE es (min a b, max a b)) ∧ (min a b, max a b) ∉ es ∧ 0 ≤ min a b ∧ min a b < max a b ∧ max a b < n := by
  unfold addErr at h
  by_cases h1 : rightB n es = false
  · rw [if_pos h1] at h; omega
  rw [if_neg h1] at h
  by_cases h2 : isB n a = false
  · rw [if_pos h2] at h; omega
  rw [if_neg h2] at h
  by_cases h3 : isB n b = false
  · rw [if_pos h3] at h; omega
  rw [if_neg h3] at h
  by_cases h4 : a = b
  · rw [if_pos h4] at h; omega
  rw [if_neg h4] at h
  by_cases h5 : hasB n es a b = true
  · rw [if_pos h5] at h; omega
  rw [if_neg h5] at h
  by_cases h6 : 65536 ≤ es.length
  · rw [if_pos h6] at h; omega
  have hr : rightB n es = true := by simpa using h1
  have hR := (right_iff n es).1 hr
  have hm : (min a b, max a b) ∉ es := fun hm => h5 ((hasB_iff hr a b).2 hm)
  have ha : 0 ≤ a ∧ a < n := by unfold isB at h2; simpa using h2
  have hb : 0 ≤ b ∧ b < n := by unfold isB at h3; simpa using h3
  have e : 0 ≤ min a b ∧ min a b < max a b ∧ max a b < n := by omega
  exact ⟨hR, right_put hR e hm (by omega), hm, e⟩
end Go.Proofs.Ytgddfmfiiodgbaa

/- The lower bound in a row of edges that rise (no program in sight). -/
namespace Go.Proofs.Ytgddfmfiiodgbaa
set_option maxRecDepth 100000
set_option linter.unusedVariables false
set_option linter.unusedSimpArgs false

theorem lb_ex (e : Int × Int) : ∀ (es : List (Int × Int)), es.Pairwise LtE → ∃ p, p ≤ es.length ∧ (∀ j d, j < p → es[j]? = some d → LtE d e) ∧ (∀ j d, p ≤ j → es[j]? = some d → ¬ LtE d e)
  | [], _ => ⟨0, by simp, fun j d h => by omega, fun j d _ h => by simp at h⟩
  | x :: r, h => by
    obtain ⟨h1, h2⟩ := List.pairwise_cons.1 h
    by_cases hx : LtE x e
    · obtain ⟨p, hp, k1, k2⟩ := lb_ex e r h2
      refine ⟨p + 1, by simpa using hp, ?_, ?_⟩
      · rintro (_ | j) d hj hd
        · simp at hd; exact hd ▸ hx
        · exact k1 j d (by omega) (by simpa using hd)
      · rintro (_ | j) d hj hd
        · omega
        · exact k2 j d (by omega) (by simpa using hd)
    · refine ⟨0, by simp, fun j d hj => by omega, ?_⟩
      rintro (_ | j) d hj hd
      · simp at hd; exact hd ▸ hx
      · intro hlt
        exact hx ((h1 d (List.mem_of_getElem? (by simpa using hd))).trans hlt)

theorem cmpE_zero (a b c d : Int) : cmpE a b c d = 0 ↔ a = c ∧ b = d := by
  unfold cmpE
  constructor
  · intro h
    repeat' split at h
    all_goals omega
  · rintro ⟨rfl, rfl⟩
    simp

theorem lb_find {es : List (Int × Int)} {e : Int × Int} {p : Nat} (h1 : ∀ j d, j < p → es[j]? = some d → LtE d e) (h2 : ∀ j d, p ≤ j → es[j]? = some d → ¬ LtE d e) (hs : es.Pairwise LtE) (fnd : Bool)
    (h3 : es[p]? = none → fnd = false) (h4 : ∀ d, es[p]? = some d → fnd = decide (cmpE d.1 d.2 e.1 e.2 = 0)) : findE es e = if fnd = true then (p : Int) else -1 := by
  have hlt : ∀ j, j < p → es[j]? ≠ some e := fun j hj h => LtE.irrefl e (h1 j e hj h)
  cases hp : es[p]? with
  | none =>
    rw [h3 hp, if_neg (by simp)]
    refine findE_no es e fun j hj h => ?_
    by_cases hjp : j < p
    · exact hlt j hjp h
    · have := List.getElem?_eq_none_iff.1 hp
      omega
  | some d =>
    rw [h4 d hp]
    by_cases hd : d = e
    · subst hd
      rw [if_pos (by simp [(cmpE_zero _ _ _ _).2])]
      exact findE_yes es _ p hp hlt
    · rw [if_neg]
      · refine findE_no es e fun j hj h => ?_
        by_cases hjp : j < p
        · exact hlt j hjp h
        by_cases hjp' : j = p
        · subst hjp'
          rw [hp] at h
          exact hd (by simpa using h)
        · have hL : LtE d e := by
            have h5 := List.pairwise_iff_getElem.1 hs p j (List.getElem?_eq_some_iff.1 hp).1 hj (by omega)
            rw [(List.getElem?_eq_some_iff.1 hp).2, (List.getElem?_eq_some_iff.1 h).2] at h5
            exact h5
          exact h2 p d (Nat.le_refl _) hp hL
      · simp only [decide_eq_true_eq, cmpE_zero]
        exact fun hh => hd (Prod.ext hh.1 hh.2)

end Go.Proofs.Ytgddfmfiiodgbaa

/- Neighbours in a row of edges (no program in sight). -/
namespace Go.Proofs.Ytgddfmfiiodgbaa
set_option maxRecDepth 100000
set_option linter.unusedVariables false
set_option linter.unusedSimpArgs false

def lowL (es : List (Int × Int)) (v : Int) : List Int := (es.filter fun e => decide (e.2 = v)).map (·.1)
def highL (es : List (Int × Int)) (v : Int) : List Int := (es.filter fun e => decide (e.1 = v)).map (·.2)
def nearL (es : List (Int × Int)) (v : Int) : List Int := lowL es v ++ highL es v
/-- What Near tells. -/
def nearB (n : Int) (es : List (Int × Int)) (v : Int) : List Int := if rightB n es = true ∧ 0 ≤ v ∧ v < n then nearL es v else []

theorem take_one (es : List (Int × Int)) (k : Nat) (e : Int × Int) (h : es[k]? = some e) : es.take (k + 1) = es.take k ++ [e] := by
  obtain ⟨hl, rfl⟩ := List.getElem?_eq_some_iff.1 h
  exact (List.take_succ_eq_append_getElem hl)
theorem lowL_one (es : List (Int × Int)) (k : Nat) (a b : Int) (h : es[k]? = some (a, b)) (v : Int) : lowL (es.take (k + 1)) v = if b = v then lowL (es.take k) v ++ [a] else lowL (es.take k) v := by
  rw [take_one es k _ h]; unfold lowL; by_cases hb : b = v <;> simp [hb]
theorem highL_one (es : List (Int × Int)) (k : Nat) (a b : Int) (h : es[k]? = some (a, b)) (v : Int) : highL (es.take (k + 1)) v = if a = v then highL (es.take k) v ++ [b] else highL (es.take k) v := by
  rw [take_one es k _ h]; unfold highL; by_cases hb : a = v <;> simp [hb]
theorem lowL_length (es : List (Int × Int)) (v : Int) : (lowL es v).length ≤ es.length := by unfold lowL; rw [List.length_map]; exact List.length_filter_le _ _
theorem highL_length (es : List (Int × Int)) (v : Int) : (highL es v).length ≤ es.length := by unfold highL; rw [List.length_map]; exact List.length_filter_le _ _
theorem nearL_length (es : List (Int × Int)) (v : Int) : (nearL es v).length ≤ es.length + es.length := by
  have := lowL_length es v; have := highL_length es v; unfold nearL; rw [List.length_append]; omega

theorem mem_lowL {es : List (Int × Int)} {v w : Int} : w ∈ lowL es v ↔ (w, v) ∈ es := by
  unfold lowL; simp only [List.mem_map, List.mem_filter, decide_eq_true_eq]
  constructor
  · rintro ⟨⟨a, b⟩, ⟨h1, h2⟩, rfl⟩; simp at h2; subst h2; exact h1
  · intro h; exact ⟨_, ⟨h, rfl⟩, rfl⟩
theorem mem_highL {es : List (Int × Int)} {v w : Int} : w ∈ highL es v ↔ (v, w) ∈ es := by
  unfold highL; simp only [List.mem_map, List.mem_filter, decide_eq_true_eq]
  constructor
  · rintro ⟨⟨a, b⟩, ⟨h1, h2⟩, rfl⟩; simp at h2; subst h2; exact h1
  · intro h; exact ⟨_, ⟨h, rfl⟩, rfl⟩
theorem mem_nearL {es : List (Int × Int)} {v w : Int} : w ∈ nearL es v ↔ (w, v) ∈ es ∨ (v, w) ∈ es := by
  unfold nearL; rw [List.mem_append, mem_lowL, mem_highL]
theorem nearL_symm {es : List (Int × Int)} {v w : Int} (h : w ∈ nearL es v) : v ∈ nearL es w := mem_nearL.2 (mem_nearL.1 h).symm

/-- The rows of all vertices. -/
def rowsF (n : Nat) (f : Int → List Int) : List (List Int) := (List.range n).map fun v : Nat => f (v : Int)
theorem rowsF_length (n : Nat) (f : Int → List Int) : (rowsF n f).length = n := by simp [rowsF]
theorem rowsF_get (n : Nat) (f : Int → List Int) (i : Nat) (h : i < n) : (rowsF n f)[i]? = some (f i) := by simp [rowsF, h]
theorem rowsF_set (n : Nat) (f g : Int → List Int) (i : Nat) (hi : i < n) (l : List Int) (hl : l = g i) (hg : ∀ v : Nat, v ≠ i → g v = f v) : (rowsF n f).set i l = rowsF n g := by
  apply List.ext_getElem?
  intro j
  rw [List.getElem?_set]
  by_cases hj : i = j
  · subst hj; simp [rowsF, hi, hl]
  · rw [if_neg hj]
    simp only [rowsF, List.getElem?_map]
    by_cases hjn : j < n
    · simp [hjn, hg j (fun h => hj h.symm)]
    · simp [hjn]
theorem rowsF_congr (n : Nat) (f g : Int → List Int) (h : ∀ v : Nat, v < n → f v = g v) : rowsF n f = rowsF n g := by
  unfold rowsF
  apply List.map_congr_left
  intro v hv
  exact h v (List.mem_range.1 hv)

theorem rowsF_nil (n : Nat) (f : Int → List Int) (h : ∀ v, f v = []) : rowsF n f = List.replicate n [] := by
  apply List.ext_getElem?
  intro j
  simp only [rowsF, List.getElem?_map, List.getElem?_replicate]
  by_cases hj : j < n
  · simp [hj, h]
  · simp [hj]
theorem nearL_nil {n : Int} {es : List (Int × Int)} (hR : rightB n es = true) {v : Int} (hv : v < 0 ∨ n ≤ v) : nearL es v = [] := by
  apply List.eq_nil_iff_forall_not_mem.2
  intro w hw
  have hP := (right_iff n es).1 hR
  rcases mem_nearL.1 hw with h | h
  · have := hP.ok _ h; simp at this; omega
  · have := hP.ok _ h; simp at this; omega
theorem nearB_right {n : Int} {es : List (Int × Int)} (hR : rightB n es = true) (v : Int) : nearB n es v = nearL es v := by
  unfold nearB
  by_cases hv : 0 ≤ v ∧ v < n
  · rw [if_pos ⟨hR, hv⟩]
  · rw [if_neg (fun h => hv h.2), nearL_nil hR (by omega)]

end Go.Proofs.Ytgddfmfiiodgbaa

/- Degrees in a row of edges: what they sum up to; neighbours rise (no program in sight). -/
namespace Go.Proofs.Ytgddfmfiiodgbaa
set_option maxRecDepth 100000
set_option linter.unusedVariables false
set_option linter.unusedSimpArgs false

def degSum (es : List (Int × Int)) : Nat → Nat
  | 0 => 0
  | k + 1 => degSum es k + (nearL es k).length
def oneAt (a : Int) : Nat → Nat
  | 0 => 0
  | k + 1 => oneAt a k + if a = (k : Int) then 1 else 0
theorem oneAt_eq (a : Int) (k : Nat) : oneAt a k = if 0 ≤ a ∧ a < (k : Int) then 1 else 0 := by
  induction k with
  | zero => unfold oneAt; rw [if_neg (by omega)]
  | succ k ih =>
    unfold oneAt; rw [ih]
    by_cases h1 : a = (k : Int)
    · rw [if_neg (by omega), if_pos h1, if_pos (by omega)]
    · by_cases h2 : 0 ≤ a ∧ a < (k : Int)
      · rw [if_pos h2, if_neg h1, if_pos (by omega)]
      · rw [if_neg h2, if_neg h1, if_neg (by omega)]
theorem nearL_cons (e : Int × Int) (es : List (Int × Int)) (v : Int) : (nearL (e :: es) v).length = (nearL es v).length + ((if e.2 = v then 1 else 0) + (if e.1 = v then 1 else 0)) := by
  unfold nearL lowL highL
  by_cases h1 : e.2 = v <;> by_cases h2 : e.1 = v <;> simp [h1, h2] <;> omega
theorem degSum_cons (e : Int × Int) (es : List (Int × Int)) (k : Nat) : degSum (e :: es) k = degSum es k + (oneAt e.2 k + oneAt e.1 k) := by
  induction k with
  | zero => rfl
  | succ k ih =>
    unfold degSum oneAt
    rw [ih, nearL_cons]
    omega
theorem degSum_nil (k : Nat) : degSum [] k = 0 := by
  induction k with
  | zero => rfl
  | succ k ih => unfold degSum; rw [ih]; rfl
theorem degSum_all (es : List (Int × Int)) (n : Nat) (h : ∀ e ∈ es, 0 ≤ e.1 ∧ e.1 < (n : Int) ∧ 0 ≤ e.2 ∧ e.2 < (n : Int)) : degSum es n = 2 * es.length := by
  induction es with
  | nil => rw [degSum_nil]; rfl
  | cons e es ih =>
    have h1 := h e (by simp)
    rw [degSum_cons, ih (fun x hx => h x (List.mem_cons_of_mem _ hx)), oneAt_eq, oneAt_eq, if_pos (by omega), if_pos (by omega), List.length_cons]
    omega
theorem degSum_le (es : List (Int × Int)) (k : Nat) : degSum es k ≤ k * (es.length + es.length) := by
  induction k with
  | zero => simp [degSum]
  | succ k ih =>
    have := nearL_length es k
    unfold degSum
    rw [Nat.succ_mul]
    omega

theorem lowL_rises {n : Int} {es : List (Int × Int)} (h : RightP n es) (v : Int) : (lowL es v).Pairwise (· < ·) := by
  unfold lowL
  rw [List.pairwise_map, List.pairwise_filter]
  refine h.inc.imp ?_
  intro a b hab ha hb
  simp at ha hb
  unfold LtE at hab
  omega
theorem highL_rises {n : Int} {es : List (Int × Int)} (h : RightP n es) (v : Int) : (highL es v).Pairwise (· < ·) := by
  unfold highL
  rw [List.pairwise_map, List.pairwise_filter]
  refine h.inc.imp ?_
  intro a b hab ha hb
  simp at ha hb
  unfold LtE at hab
  omega
theorem nearL_rises {n : Int} {es : List (Int × Int)} (h : RightP n es) (v : Int) : (nearL es v).Pairwise (· < ·) := by
  unfold nearL
  rw [List.pairwise_append]
  refine ⟨lowL_rises h v, highL_rises h v, fun a ha b hb => ?_⟩
  have h1 := h.ok _ (mem_lowL.1 ha)
  have h2 := h.ok _ (mem_highL.1 hb)
  simp at h1 h2
  omega
theorem findE_at {n : Int} {es : List (Int × Int)} (h : RightP n es) (k : Nat) (e : Int × Int) (hk : es[k]? = some e) : findE es e = k := by
  refine findE_yes es e k hk fun j hj he => ?_
  have := List.pairwise_iff_getElem.1 h.inc j k (List.getElem?_eq_some_iff.1 he).1 (List.getElem?_eq_some_iff.1 hk).1 hj
  rw [(List.getElem?_eq_some_iff.1 he).2, (List.getElem?_eq_some_iff.1 hk).2] at this
  exact LtE.irrefl e this
theorem index_at {n : Int} {es : List (Int × Int)} (h : RightP n es) (k : Nat) (x y : Int) (hk : es[k]? = some (x, y)) : indexB n es y x = k := by
  have hlt := (h.ok _ (List.mem_of_getElem? hk)).2.1
  simp at hlt
  unfold indexB
  rw [if_pos ((right_iff _ _).2 h), show min y x = x by omega, show max y x = y by omega]
  exact findE_at h k _ hk
end Go.Proofs.Ytgddfmfiiodgbaa
