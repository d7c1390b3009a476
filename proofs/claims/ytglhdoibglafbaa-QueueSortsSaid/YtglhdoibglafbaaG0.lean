/- Graphs as rows of edges: what is right, where an edge is, an edge among some: plain, no program in sight. -/
namespace Go.Proofs.Ytglhdoibglafbaa
set_option maxRecDepth 100000
set_option linter.unusedVariables false

def cmpE (a b c d : Int) : Int := if a < c then -1 else if c < a then 1 else if b < d then -1 else if d < b then 1 else 0
theorem cmpE_eq (a b c d : Int) : (if (if a < c then (-1 : Int) else if c < a then 1 else 0) = 0 then (if b < d then (-1 : Int) else if d < b then 1 else 0) else (if a < c then -1 else if c < a then 1 else 0)) = cmpE a b c d := by
  unfold cmpE
  by_cases h1 : a < c
  · simp [h1]
  · by_cases h2 : c < a
    · simp [h1, h2]
    · simp [h1, h2]


theorem ahead_cmp (a b c d : Int) : decide (a < c ∨ a = c ∧ b < d) = decide (cmpE a b c d < 0) := by
  unfold cmpE
  by_cases h1 : a < c
  · simp [h1]
  · by_cases h2 : c < a
    · simp [h1, h2]; omega
    · obtain rfl : a = c := by omega
      by_cases h3 : b < d
      · simp [h3]
      · by_cases h4 : d < b
        · simp [h3, h4]
        · simp [h3, h4]


/-- Is place k of a row of edges as it should be? -/
def okAt (n : Int) (es : List (Int × Int)) (k : Nat) : Bool :=
  match es[k]? with
  | none => true
  | some e => decide (0 ≤ e.1) && decide (e.1 < e.2) && decide (e.2 < n) && (k == 0 || match es[k - 1]? with | none => true | some d => decide (cmpE d.1 d.2 e.1 e.2 < 0))
def rightB (n : Int) (es : List (Int × Int)) : Bool := decide (0 ≤ n) && decide (n ≤ 4096) && decide (es.length ≤ 65536) && (List.range es.length).all fun k => okAt n es k

theorem okAt_no {n : Int} {es : List (Int × Int)} {k : Nat} {x y : Int} (h : es[k]? = some (x, y)) (hb : x < 0 ∨ y ≤ x ∨ n ≤ y) : okAt n es k = false := by
  unfold okAt
  rw [h]
  simp
  omega
theorem okAt_zero {n : Int} {es : List (Int × Int)} {x y : Int} (h : es[0]? = some (x, y)) (h1 : 0 ≤ x) (h2 : x < y) (h3 : y < n) : okAt n es 0 = true := by
  unfold okAt
  rw [h]
  simp [h1, h2, h3]
theorem okAt_succ {n : Int} {es : List (Int × Int)} {k : Nat} {x y x' y' : Int} (h : es[k + 1]? = some (x, y)) (h' : es[k]? = some (x', y')) (h1 : 0 ≤ x) (h2 : x < y) (h3 : y < n) : okAt n es (k + 1) = decide (cmpE x' y' x y < 0) := by
  unfold okAt
  rw [h]
  simp [h1, h2, h3, h']
theorem one_ok {p : Nat → Prop} (h : p 0) : ∀ j, j < 1 → p j := fun j hj => by
  obtain rfl : j = 0 := by omega
  exact h
theorem succ_ok {p : Nat → Prop} {k : Nat} (h : ∀ j, j < k → p j) (hk : p k) : ∀ j, j < k + 1 → p j := fun j hj => by
  by_cases e : j = k
  · subst e; exact hk
  · exact h j (by omega)
theorem right_yes (n : Int) (es : List (Int × Int)) (h0 : 0 ≤ n) (h1 : n ≤ 4096) (h2 : es.length ≤ 65536) (h : ∀ j, j < es.length → okAt n es j = true) : rightB n es = true := by
  unfold rightB
  have : (List.range es.length).all (fun k => okAt n es k) = true := by
    rw [List.all_eq_true]
    intro k hk
    exact h k (by simpa using hk)
  rw [this]
  simp [h0, h1, h2]
theorem right_no (n : Int) (es : List (Int × Int)) (k : Nat) (hk : k < es.length) (h : okAt n es k = false) : rightB n es = false := by
  unfold rightB
  have : (List.range es.length).all (fun k => okAt n es k) = false := by
    rw [List.all_eq_false]
    exact ⟨k, by simpa using hk, by simp [h]⟩
  rw [this]
  simp


/-- Where an edge is: the place of the first pair that it is. -/
def findE (es : List (Int × Int)) (e : Int × Int) : Int := match es.findIdx? (fun x => decide (x = e)) with | some i => i | none => -1
def indexB (n : Int) (es : List (Int × Int)) (a b : Int) : Int := if rightB n es = true then findE es (min a b, max a b) else -1
theorem findE_no (es : List (Int × Int)) (e : Int × Int) (h : ∀ j, j < es.length → es[j]? ≠ some e) : findE es e = -1 := by
  unfold findE
  rw [List.findIdx?_eq_none_iff.2 (fun x hx => by
    obtain ⟨j, hj, rfl⟩ := List.getElem_of_mem hx
    have := h j hj
    rw [List.getElem?_eq_getElem hj] at this
    simpa using this)]
theorem findE_yes (es : List (Int × Int)) (e : Int × Int) (k : Nat) (hk : es[k]? = some e) (h : ∀ j, j < k → es[j]? ≠ some e) : findE es e = k := by
  unfold findE
  obtain ⟨hkl, hke⟩ := List.getElem?_eq_some_iff.1 hk
  have : es.findIdx? (fun x => decide (x = e)) = some k := by
    rw [List.findIdx?_eq_some_iff_getElem]
    refine ⟨hkl, by simp [hke], fun j hj => ?_⟩
    have := h j hj
    have hjl : j < es.length := by omega
    rw [List.getElem?_eq_getElem hjl] at this
    simpa using this
  rw [this]


def hasB (n : Int) (es : List (Int × Int)) (a b : Int) : Bool := decide (0 ≤ indexB n es a b)

def ltE (d e : Int × Int) : Bool := decide (cmpE d.1 d.2 e.1 e.2 < 0)
/-- From place k down: the place behind the last one that does not stand behind e. -/
def putK (es : List (Int × Int)) (e : Int × Int) : Nat → Nat
  | 0 => 0
  | k + 1 => match es[k]? with
    | some d => if ltE e d = true then putK es e k else k + 1
    | none => k + 1
def putE (es : List (Int × Int)) (e : Int × Int) : List (Int × Int) := es.take (putK es e es.length) ++ e :: es.drop (putK es e es.length)
theorem putK_le (es : List (Int × Int)) (e : Int × Int) (k : Nat) : putK es e k ≤ k := by
  induction k with
  | zero => exact Nat.le_refl _
  | succ k ih =>
    unfold putK
    split
    · split
      · omega
      · omega
    · omega


def isB (n a : Int) : Bool := decide (0 ≤ a ∧ a < n)
def addErr (n : Int) (es : List (Int × Int)) (a b : Int) : Int :=
  if rightB n es = false then 3 else if isB n a = false then 4 else if isB n b = false then 4 else if a = b then 5 else if hasB n es a b = true then 6 else if 65536 ≤ es.length then 8 else 0


end Go.Proofs.Ytglhdoibglafbaa
