/- A row of the call's own: a cell read, a cell written (no program in sight). -/
import Derived.Test.YtglhdoibglafbaaU02
namespace Go.Proofs.Ytglhdoibglafbaa
open Go Go.RowKit
set_option maxRecDepth 100000
set_option linter.unusedVariables false
set_option linter.unusedSimpArgs false

section
variable {w : World} {base e size : Nat} {v : Value} {n : Nat} {xs : List Value}

/-- Where an own row that is not empty lies. -/
theorem own_block (h : w.ownsRow base e size v n xs) (hn : 0 < n) : ∃ g c, v = .slice (some ⟨g, 0, none⟩) n c ∧ n ≤ c ∧ base ≤ g ∧ g < w.heap.size ∧
    (∀ j u, xs[j]? = some u → w.cell? ⟨g, j, none⟩ = some u) ∧ (∀ j, w.frozen? ⟨g, j, none⟩ = false) := by
  obtain ⟨h0, h2⟩ := h
  rcases h2 with ⟨rfl, rfl⟩ | ⟨g, cap, cur, rfl, hg, hh, hnc, _, hsz, htk⟩
  · omega
  · refine ⟨g, cap, rfl, hnc, hg, ?_, fun j u hu => ?_, fun j => by simp [World.frozen?, hh]⟩
    · rcases Nat.lt_or_ge g w.heap.size with hl | hl
      · exact hl
      · rw [Array.getElem?_eq_none hl] at hh; cases hh
    · rw [cell_of_row w g j cur e (0, 0) hh]
      rw [← htk, List.getElem?_take] at hu
      split at hu
      · simpa using hu
      · cases hu

/-- A cell of an own row is written. -/
theorem own_write {g c : Nat} (h : w.ownsRow base e size (.slice (some ⟨g, 0, none⟩) n c) n xs) (j : Nat) (hj : j < xs.length) (u : Value) :
    (w.setCell ⟨g, j, none⟩ u).ownsRow base e size (.slice (some ⟨g, 0, none⟩) n c) n (xs.set j u) := by
  obtain ⟨h0, h2⟩ := h
  refine ⟨by simpa using h0, ?_⟩
  rcases h2 with ⟨hv, rfl⟩ | ⟨g', cap, cur, hv, hg, hh, hnc, hcm, hsz, htk⟩
  · cases hv
  · simp only [Value.slice.injEq, Option.some.injEq, Addr.mk.injEq, and_true, true_and] at hv
    obtain ⟨rfl, rfl⟩ := hv
    refine .inr ⟨g, c, cur.setIfInBounds j u, rfl, hg, ?_, hnc, hcm, by simpa using hsz, ?_⟩
    · simp [World.setCell, Array.getElem?_modify, hh]
    · rw [Array.toList_setIfInBounds, List.take_set, htk]
theorem own_reads1 {A : Option Addr} {c m : Nat} (h : w.ownsRow base e size (.slice A m c) n xs) : Reads w A xs ∧ n ≤ c ∧ m = n := by
  obtain ⟨A', c', hv, h1, h2⟩ := own_reads0 h
  simp only [Value.slice.injEq] at hv
  obtain ⟨rfl, rfl, rfl⟩ := hv
  exact ⟨h2, h1, rfl⟩
end

theorem addr_map (b o k : Nat) : ((some ⟨b, o, none⟩ : Option Addr).map (·.add k)) = some ⟨b, o + k, none⟩ := by
  have : (⟨b, o, none⟩ : Addr).add k = ⟨b, o + k, none⟩ := by unfold Addr.add; split <;> simp_all
  simp [this]
theorem pcells_set0 (l : List (Int × Int)) (k : Nat) (x y x' : Int) (h : l[k]? = some (x, y)) : (pcells l).set (k * 2) (.int .i64 x') = pcells (l.set k (x', y)) := by
  induction l generalizing k with
  | nil => simp at h
  | cons a l ih =>
    cases k with
    | zero => simp at h; subst h; simp [pcells]
    | succ k =>
      have := ih k (by simpa using h)
      simp only [pcells, List.flatMap_cons, List.set_cons_succ] at this ⊢
      rw [← this, show (k + 1) * 2 = k * 2 + 1 + 1 by omega]
      simp
theorem pcells_set1 (l : List (Int × Int)) (k : Nat) (x y y' : Int) (h : l[k]? = some (x, y)) : (pcells l).set (k * 2 + 1) (.int .i64 y') = pcells (l.set k (x, y')) := by
  induction l generalizing k with
  | nil => simp at h
  | cons a l ih =>
    cases k with
    | zero => simp at h; subst h; simp [pcells]
    | succ k =>
      have := ih k (by simpa using h)
      simp only [pcells, List.flatMap_cons, List.set_cons_succ] at this ⊢
      rw [← this, show (k + 1) * 2 + 1 = k * 2 + 1 + 1 + 1 by omega]
      simp
end Go.Proofs.Ytglhdoibglafbaa

/- Right graphs: what 'rightB' says, and that an edge put among the others leaves one. -/
namespace Go.Proofs.Ytglhdoibglafbaa
set_option maxRecDepth 100000
set_option linter.unusedVariables false
set_option linter.unusedSimpArgs false

def LtE (d e : Int × Int) : Prop := d.1 < e.1 ∨ (d.1 = e.1 ∧ d.2 < e.2)
theorem cmpE_lt (a b c d : Int) : cmpE a b c d < 0 ↔ LtE (a, b) (c, d) := by
  have := ahead_cmp a b c d
  rw [decide_eq_decide] at this
  exact this.symm
theorem LtE.trans {a b c : Int × Int} (h : LtE a b) (k : LtE b c) : LtE a c := by unfold LtE at *; omega
theorem LtE.irrefl (a : Int × Int) : ¬ LtE a a := by unfold LtE; omega
theorem LtE.or {a b : Int × Int} (h : ¬ LtE a b) : a = b ∨ LtE b a := by
  unfold LtE at *
  by_cases h1 : a.1 = b.1
  · by_cases h2 : a.2 = b.2
    · exact .inl (Prod.ext h1 h2)
    · omega
  · omega
theorem ltE_iff (d e : Int × Int) : ltE d e = true ↔ LtE d e := by
  unfold ltE
  rw [decide_eq_true_iff]
  exact cmpE_lt _ _ _ _

structure RightP (n : Int) (es : List (Int × Int)) : Prop where
  n0 : 0 ≤ n
  n1 : n ≤ 4096
  len : es.length ≤ 65536
  ok : ∀ e ∈ es, 0 ≤ e.1 ∧ e.1 < e.2 ∧ e.2 < n
  inc : es.Pairwise LtE

theorem right_iff (n : Int) (es : List (Int × Int)) : rightB n es = true ↔ RightP n es := by
  constructor
  · intro h
    unfold rightB at h
    simp only [Bool.and_eq_true, decide_eq_true_eq, List.all_eq_true, List.mem_range] at h
    obtain ⟨⟨⟨h0, h1⟩, h2⟩, h3⟩ := h
    have hs : ∀ k (hk : k < es.length), (0 ≤ (es[k]).1 ∧ (es[k]).1 < (es[k]).2 ∧ (es[k]).2 < n) ∧ (0 < k → LtE (es[k - 1]'(by omega)) es[k]) := by
      intro k hk
      have := h3 k hk
      unfold okAt at this
      rw [List.getElem?_eq_getElem hk] at this
      simp only [Bool.and_eq_true, decide_eq_true_eq, Bool.or_eq_true, beq_iff_eq] at this
      refine ⟨⟨this.1.1.1, this.1.1.2, this.1.2⟩, fun hk0 => ?_⟩
      rcases this.2 with h | h
      · omega
      · rw [List.getElem?_eq_getElem (by omega : k - 1 < es.length)] at h
        simp only [decide_eq_true_eq] at h
        exact (cmpE_lt _ _ _ _).1 h
    refine ⟨h0, h1, h2, fun e he => ?_, ?_⟩
    · obtain ⟨k, hk, rfl⟩ := List.getElem_of_mem he
      exact (hs k hk).1
    · rw [List.pairwise_iff_getElem]
      have key : ∀ d i j (hi : i < es.length) (hj : j < es.length), i + 1 + d = j → LtE es[i] es[j] := by
        intro d
        induction d with
        | zero =>
          intro i j hi hj hij
          subst hij
          exact (hs (i + 1) hj).2 (by omega)
        | succ d ih =>
          intro i j hi hj hij
          have h1 := ih i (j - 1) hi (by omega) (by omega)
          exact h1.trans ((hs j hj).2 (by omega))
      intro i j hi hj hij
      exact key (j - i - 1) i j hi hj (by omega)
  · rintro ⟨h0, h1, h2, h3, h4⟩
    refine right_yes n es h0 h1 h2 fun j hj => ?_
    have hj3 := h3 _ (List.getElem_mem hj)
    unfold okAt
    rw [List.getElem?_eq_getElem hj]
    simp only [Bool.and_eq_true, decide_eq_true_eq, Bool.or_eq_true, beq_iff_eq]
    refine ⟨⟨⟨hj3.1, hj3.2.1⟩, hj3.2.2⟩, ?_⟩
    by_cases hz : j = 0
    · exact .inl hz
    · right
      rw [List.getElem?_eq_getElem (by omega : j - 1 < es.length)]
      simp only [decide_eq_true_eq]
      exact (cmpE_lt _ _ _ _).2 (List.pairwise_iff_getElem.1 h4 (j - 1) j (by omega) hj (by omega))

theorem findE_mem (es : List (Int × Int)) (e : Int × Int) : 0 ≤ findE es e ↔ e ∈ es := by
  unfold findE
  constructor
  · intro h
    cases hf : es.findIdx? (fun x => decide (x = e)) with
    | none => rw [hf] at h; simp at h
    | some k =>
      obtain ⟨hk, h1, _⟩ := List.findIdx?_eq_some_iff_getElem.1 hf
      simp at h1
      exact h1 ▸ List.getElem_mem hk
  · intro h
    cases hf : es.findIdx? (fun x => decide (x = e)) with
    | none =>
      have := List.findIdx?_eq_none_iff.1 hf e h
      simp at this
    | some k => simp
theorem hasB_iff {n : Int} {es : List (Int × Int)} (hr : rightB n es = true) (a b : Int) : hasB n es a b = true ↔ (min a b, max a b) ∈ es := by
  unfold hasB indexB
  rw [if_pos hr, decide_eq_true_iff]
  exact findE_mem _ _

theorem putK_spec (es : List (Int × Int)) (e : Int × Int) : ∀ m, m ≤ es.length → (∀ i (hi : i < es.length), putK es e m ≤ i → i < m → LtE e es[i]) ∧ (∀ i (hi : i < es.length), i + 1 = putK es e m → ¬ LtE e es[i]) := by
  intro m
  induction m with
  | zero => intro _; exact ⟨fun i hi h h' => by omega, fun i hi h => by simp [putK] at h⟩
  | succ k ih =>
    intro hk
    obtain ⟨g1, g2⟩ := ih (by omega)
    have hkl : k < es.length := by omega
    unfold putK
    rw [List.getElem?_eq_getElem hkl]
    by_cases h : ltE e es[k] = true
    · simp only [h, if_true]
      refine ⟨fun i hi h1 h2 => ?_, g2⟩
      by_cases hik : i = k
      · subst hik; exact (ltE_iff _ _).1 h
      · exact g1 i hi h1 (by omega)
    · simp only [h]
      refine ⟨fun i hi h1 h2 => ?_, fun i hi h1 => ?_⟩
      · simp at h1; omega
      · simp at h1
        subst h1
        exact fun h' => h ((ltE_iff _ _).2 h')

theorem mem_putE (es : List (Int × Int)) (e x : Int × Int) : x ∈ putE es e ↔ x = e ∨ x ∈ es := by
  unfold putE
  rw [List.mem_append, List.mem_cons]
  constructor
  · rintro (h | h | h)
    · exact .inr (List.mem_of_mem_take h)
    · exact .inl h
    · exact .inr (List.mem_of_mem_drop h)
  · rintro (h | h)
    · exact .inr (.inl h)
    · rw [← List.take_append_drop (putK es e es.length) es] at h
      rcases List.mem_append.1 h with h | h
      · exact .inl h
      · exact .inr (.inr h)
theorem putE_length (es : List (Int × Int)) (e : Int × Int) : (putE es e).length = es.length + 1 := by
  have := putK_le es e es.length
  unfold putE
  simp
  omega

theorem right_put {n : Int} {es : List (Int × Int)} (h : RightP n es) {e : Int × Int} (he : 0 ≤ e.1 ∧ e.1 < e.2 ∧ e.2 < n) (hn : e ∉ es) (hl : es.length < 65536) : RightP n (putE es e) := by
  refine ⟨h.n0, h.n1, by rw [putE_length]; omega, fun x hx => ?_, ?_⟩
  · rcases (mem_putE _ _ _).1 hx with rfl | hx
    · exact he
    · exact h.ok x hx
  · obtain ⟨g1, g2⟩ := putK_spec es e es.length (Nat.le_refl _)
    have hk := putK_le es e es.length
    have hp := h.inc
    unfold putE
    generalize putK es e es.length = k at *
    rw [← List.take_append_drop k es] at hp
    rw [List.pairwise_append] at hp ⊢
    obtain ⟨p1, p2, p3⟩ := hp
    have hlow : ∀ x ∈ es.take k, LtE x e := by
      intro x hx
      obtain ⟨i, hi, rfl⟩ := List.getElem_of_mem hx
      simp at hi
      rw [List.getElem_take]
      have hlast : LtE (es[k - 1]'(by omega)) e := by
        rcases LtE.or (g2 (k - 1) (by omega) (by omega)) with h' | h'
        · exact absurd (h' ▸ List.getElem_mem _) hn
        · exact h'
      by_cases hik : i = k - 1
      · subst hik; exact hlast
      · exact (List.pairwise_iff_getElem.1 h.inc i (k - 1) (by omega) (by omega) (by omega)).trans hlast
    have hhigh : ∀ x ∈ es.drop k, LtE e x := by
      intro x hx
      obtain ⟨i, hi, rfl⟩ := List.getElem_of_mem hx
      rw [List.getElem_drop]
      simp at hi
      exact g1 (k + i) (by omega) (by omega) (by omega)
    refine ⟨p1, ?_, ?_⟩
    · rw [List.pairwise_cons]
      exact ⟨hhigh, p2⟩
    · intro x hx y hy
      rcases List.mem_cons.1 hy with rfl | hy
      · exact hlow x hx
      · exact p3 x hx y hy

/-- Where Add answers 0, the graph with an edge more is right. -/
theorem addErr_zero {n : Int} {es : List (Int × Int)} {a b : Int} (h : addErr n es a b = 0) :
    RightP n es ∧ RightP n (putE es (min a b, max a b)) ∧ (min a b, max a b) ∉ es ∧ 0 ≤ min a b ∧ min a b < max a b ∧ max a b < n := by
  unfold addErr at h
  by_cases h1 : rightB n es = false
  · rw [if_pos h1] at h; omega
  rw [if_neg h1] at h
  by_cases h2 : isB n a = false
  · rw [if_pos h2] at h; omega
  rw [if_neg h2] at h
  by_cases h3 : isB n b = false
  · rw [if_pos h3] at h; omega
  rw [if_neg h3] at h
  by_cases h4 : a = b
  · rw [if_pos h4] at h; omega
  rw [if_neg h4] at h
  by_cases h5 : hasB n es a b = true
  · rw [if_pos h5] at h; omega
  rw [if_neg h5] at h
  by_cases h6 : 65536 ≤ es.length
  · rw [if_pos h6] at h; omega
  have hr : rightB n es = true := by simpa using h1
  have hR := (right_iff n es).1 hr
  have hm : (min a b, max a b) ∉ es := fun hm => h5 ((hasB_iff hr a b).2 hm)
  have ha : 0 ≤ a ∧ a < n := by unfold isB at h2; simpa using h2
  have hb : 0 ≤ b ∧ b < n := by unfold isB at h3; simpa using h3
  have e : 0 ≤ min a b ∧ min a b < max a b ∧ max a b < n := by omega
  exact ⟨hR, right_put hR e hm (by omega), hm, e⟩
end Go.Proofs.Ytglhdoibglafbaa

/- A heap in a row of pairs; a row that is in order (no program in sight). -/
namespace Go.Proofs.Ytglhdoibglafbaa
set_option maxRecDepth 100000
set_option linter.unusedVariables false
set_option linter.unusedSimpArgs false

abbrev PE := Int × Int
/-- Of places i and j: what stands at i does not come ahead of what stands at j. -/
def NotLt (l : List PE) (i j : Nat) : Prop := ∀ x y, l[i]? = some x → l[j]? = some y → ¬ LtE x y
def HeapN (l : List PE) (n : Nat) : Prop := ∀ i, 0 < i → i < n → NotLt l i ((i - 1) / 2)
def UpInv (l : List PE) (j : Nat) : Prop := (∀ i, 0 < i → i < l.length → i ≠ j → NotLt l i ((i - 1) / 2)) ∧ (∀ i, 0 < i → i < l.length → (i - 1) / 2 = j → 0 < j → NotLt l i ((j - 1) / 2))
def DownInv (l : List PE) (n i : Nat) : Prop := (∀ k, 0 < k → k < n → (k - 1) / 2 ≠ i → NotLt l k ((k - 1) / 2)) ∧ (∀ k, 0 < k → k < n → (k - 1) / 2 = i → 0 < i → NotLt l k ((i - 1) / 2))
def swapL (l : List PE) (i j : Nat) : List PE := match l[i]?, l[j]? with
  | some x, some y => (l.set i y).set j x
  | _, _ => l

theorem LtE.asymm {a b : PE} (h : LtE a b) : ¬ LtE b a := fun k => LtE.irrefl a (h.trans k)
theorem le_trans' {a b c : PE} (h : ¬ LtE b a) (k : ¬ LtE c b) : ¬ LtE c a := by unfold LtE at *; omega

theorem swapL_eq {l : List PE} {i j : Nat} {x y : PE} (hi : l[i]? = some x) (hj : l[j]? = some y) : swapL l i j = (l.set i y).set j x := by unfold swapL; rw [hi, hj]
theorem swapL_length (l : List PE) (i j : Nat) : (swapL l i j).length = l.length := by
  unfold swapL; split <;> simp
theorem swapL_perm (l : List PE) (i j : Nat) : (swapL l i j).Perm l := by
  unfold swapL
  split
  · rename_i x y hi hj
    obtain ⟨h1, rfl⟩ := List.getElem?_eq_some_iff.1 hi
    obtain ⟨h2, rfl⟩ := List.getElem?_eq_some_iff.1 hj
    exact List.set_set_perm h1 h2
  · exact List.Perm.refl _
theorem swapL_get {l : List PE} {i j : Nat} {x y : PE} (hi : l[i]? = some x) (hj : l[j]? = some y) (k : Nat) : (swapL l i j)[k]? = if k = j then some x else if k = i then some y else l[k]? := by
  have h1 := (List.getElem?_eq_some_iff.1 hi).1
  have h2 := (List.getElem?_eq_some_iff.1 hj).1
  rw [swapL_eq hi hj, List.getElem?_set, List.getElem?_set]
  by_cases e1 : j = k
  · subst e1; simp [h2]
  · have e1' : ¬ k = j := fun h => e1 h.symm
    rw [if_neg e1, if_neg e1']
    by_cases e2 : i = k
    · subst e2; simp [h1]
    · have e2' : ¬ k = i := fun h => e2 h.symm
      rw [if_neg e2, if_neg e2']

theorem up_step {l : List PE} {j : Nat} (h : UpInv l j) (hj : 0 < j) (hjl : j < l.length) {x y : PE} (hx : l[j]? = some x) (hy : l[(j - 1) / 2]? = some y) (hlt : LtE x y) : UpInv (swapL l ((j - 1) / 2) j) ((j - 1) / 2) := by
  have hp : (j - 1) / 2 < j := by omega
  have G := fun k => swapL_get hy hx k
  constructor
  · intro i h0 hil hne a b ha hb
    rw [swapL_length] at hil
    rw [G] at ha hb
    by_cases e1 : i = j
    · rw [if_pos e1] at ha; cases ha
      rw [e1, if_neg (by omega), if_pos rfl] at hb; cases hb
      exact hlt.asymm
    · rw [if_neg e1, if_neg hne] at ha
      by_cases e2 : (i - 1) / 2 = j
      · rw [if_pos e2] at hb; cases hb
        exact h.2 i h0 hil e2 hj a _ ha hy
      · rw [if_neg e2] at hb
        by_cases e3 : (i - 1) / 2 = (j - 1) / 2
        · rw [if_pos e3] at hb; cases hb
          have h3 := h.1 i h0 hil e1 a y ha (by rw [e3]; exact hy)
          unfold LtE at *; omega
        · rw [if_neg e3] at hb
          exact h.1 i h0 hil e1 a b ha hb
  · intro i h0 hil hpi hp0 a b ha hb
    rw [swapL_length] at hil
    rw [G] at ha hb
    rw [if_neg (by omega), if_neg (by omega)] at hb
    have h4 := h.1 ((j - 1) / 2) hp0 (by omega) (by omega) y b hy hb
    by_cases e1 : i = j
    · rw [if_pos e1] at ha; cases ha
      exact h4
    · rw [if_neg e1, if_neg (by omega)] at ha
      have h3 := h.1 i h0 hil e1 a y ha (by rw [hpi]; exact hy)
      unfold LtE at *; omega
theorem up_end {l : List PE} {j : Nat} (h : UpInv l j) (he : j = 0 ∨ NotLt l j ((j - 1) / 2)) : HeapN l l.length := by
  intro i h0 hi
  by_cases e : i = j
  · subst e
    rcases he with he | he
    · omega
    · exact he
  · exact h.1 i h0 hi e
theorem up_start {l : List PE} (h : HeapN l l.length) (e : PE) : UpInv (l ++ [e]) l.length := by
  constructor
  · intro i h0 hi hne a b ha hb
    simp at hi
    rw [List.getElem?_append_left (by omega)] at ha hb
    exact h i h0 (by omega) a b ha hb
  · intro i h0 hi hp
    simp at hi
    omega

theorem down_step {l : List PE} {n i j : Nat} (h : DownInv l n i) (hn : n ≤ l.length) (hj0 : 0 < j) (hjn : j < n) (hpj : (j - 1) / 2 = i) {x y : PE} (hx : l[i]? = some x) (hy : l[j]? = some y) (hlt : LtE y x)
    (hmin : ∀ k z, 0 < k → k < n → (k - 1) / 2 = i → l[k]? = some z → ¬ LtE z y) : DownInv (swapL l i j) n j := by
  have hij : i < j := by omega
  have G := fun k => swapL_get hx hy k
  constructor
  · intro k h0 hk hne a b ha hb
    rw [G] at ha hb
    rw [if_neg hne] at hb
    by_cases e1 : k = j
    · rw [if_pos e1] at ha; cases ha
      rw [if_pos (by rw [e1]; exact hpj)] at hb; cases hb
      exact hlt.asymm
    · rw [if_neg e1] at ha
      by_cases e2 : k = i
      · rw [if_pos e2] at ha; cases ha
        rw [if_neg (by omega)] at hb
        exact h.2 j hj0 hjn hpj (by omega) y b hy (by rw [← e2]; exact hb)
      · rw [if_neg e2] at ha
        by_cases e3 : (k - 1) / 2 = i
        · rw [if_pos e3] at hb; cases hb
          exact hmin k a h0 hk e3 ha
        · rw [if_neg e3] at hb
          exact h.1 k h0 hk e3 a b ha hb
  · intro k h0 hk hp hjp a b ha hb
    rw [G] at ha hb
    rw [hpj, if_neg (by omega), if_pos rfl] at hb; cases hb
    rw [if_neg (by omega), if_neg (by omega)] at ha
    exact h.1 k h0 hk (by omega) a y ha (by rw [hp]; exact hy)
theorem down_end {l : List PE} {n i : Nat} (h : DownInv l n i) (he : ∀ k, 0 < k → k < n → (k - 1) / 2 = i → NotLt l k i) : HeapN l n := by
  intro k h0 hk
  by_cases e : (k - 1) / 2 = i
  · rw [e]; exact he k h0 hk e
  · exact h.1 k h0 hk e
theorem down_start {l : List PE} {n : Nat} (h : HeapN l l.length) (hn : n + 1 = l.length) : DownInv (swapL l 0 n) n 0 := by
  obtain ⟨x, hx⟩ : ∃ x, l[0]? = some x := ⟨l[0], by simp⟩
  obtain ⟨y, hy⟩ : ∃ y, l[n]? = some y := ⟨l[n], by simp⟩
  constructor
  · intro k h0 hk hne a b ha hb
    rw [swapL_get hx hy, if_neg (by omega), if_neg (by omega)] at ha hb
    exact h k h0 (by omega) a b ha hb
  · intro k h0 hk hp h1
    omega
theorem heap_min {l : List PE} (h : HeapN l l.length) {x : PE} (hx : l[0]? = some x) : ∀ (i : Nat) (y : PE), l[i]? = some y → ¬ LtE y x := by
  intro i
  induction i using Nat.strongRecOn with
  | _ i ih =>
    intro y hy
    by_cases h0 : i = 0
    · subst h0; rw [hx] at hy; cases hy; exact LtE.irrefl _
    · have hl := (List.getElem?_eq_some_iff.1 hy).1
      obtain ⟨z, hz⟩ : ∃ z, l[(i - 1) / 2]? = some z := ⟨l[(i - 1) / 2]'(by omega), by simp⟩
      exact le_trans' (ih _ (by omega) z hz) (h i (by omega) hl y z hy hz)

/-- In order. -/
def InOrder (l : List PE) : Prop := l.Pairwise fun a b => ¬ LtE b a
theorem putK_spec' (es : List PE) (e : PE) (hs : InOrder es) : ∀ m, m ≤ es.length → (∀ j d, putK es e m ≤ j → j < m → es[j]? = some d → LtE e d) ∧ (∀ d, 0 < putK es e m → es[putK es e m - 1]? = some d → ¬ LtE e d) := by
  intro m
  induction m with
  | zero => intro _; exact ⟨fun j d _ h => by omega, fun d h => by simp [putK] at h⟩
  | succ m ih =>
    intro hm
    obtain ⟨d0, hd0⟩ : ∃ d, es[m]? = some d := ⟨es[m], by simp⟩
    have hk : putK es e (m + 1) = if ltE e d0 = true then putK es e m else m + 1 := by
      conv => lhs; unfold putK
      rw [hd0]
    rw [hk]
    by_cases h : ltE e d0 = true
    · rw [if_pos h]
      obtain ⟨h1, h2⟩ := ih (by omega)
      refine ⟨fun j d hj hjm hd => ?_, h2⟩
      by_cases hjm' : j = m
      · subst hjm'; rw [hd0] at hd; cases hd; exact (ltE_iff _ _).1 h
      · exact h1 j d hj (by omega) hd
    · rw [if_neg h]
      refine ⟨fun j d hj hjm hd => by omega, fun d _ hd => ?_⟩
      rw [Nat.add_sub_cancel, hd0] at hd; cases hd
      exact fun hh => h ((ltE_iff _ _).2 hh)
theorem putE_perm (es : List PE) (e : PE) : (putE es e).Perm (e :: es) := by
  unfold putE
  have := List.take_append_drop (putK es e es.length) es
  conv => rhs; rw [← this]
  exact List.perm_middle
theorem putE_order {es : List PE} (e : PE) (hs : InOrder es) : InOrder (putE es e) := by
  obtain ⟨h1, h2⟩ := putK_spec' es e hs es.length (Nat.le_refl _)
  have hk := putK_le es e es.length
  unfold putE
  generalize putK es e es.length = k at *
  unfold InOrder at *
  rw [List.pairwise_append]
  have hlow : ∀ a ∈ es.take k, ¬ LtE e a := by
    intro a ha
    obtain ⟨i, hi⟩ := List.getElem?_of_mem ha
    rw [List.getElem?_take] at hi
    split at hi
    · rename_i hik0
      have hil := (List.getElem?_eq_some_iff.1 hi).1
      obtain ⟨d, hd⟩ : ∃ d, es[k - 1]? = some d := ⟨es[k - 1]'(by omega), by simp⟩
      have h3 := h2 d (by omega) hd
      by_cases hik : i = k - 1
      · subst hik
        rw [hi] at hd; cases hd
        exact h3
      · have := List.pairwise_iff_getElem.1 hs i (k - 1) (by omega) (by omega) (by omega)
        rw [(List.getElem?_eq_some_iff.1 hd).2, (List.getElem?_eq_some_iff.1 hi).2] at this
        unfold LtE at *; omega
    · cases hi
  refine ⟨hs.sublist (List.take_sublist _ _), List.pairwise_cons.2 ⟨fun b hb => ?_, hs.sublist (List.drop_sublist _ _)⟩, fun a ha b hb => ?_⟩
  · obtain ⟨i, hi, rfl⟩ := List.getElem_of_mem hb
    simp at hi
    have h4 := h1 (k + i) ((es.drop k)[i]) (by omega) (by omega) (by simp)
    exact h4.asymm
  · rcases List.mem_cons.1 hb with rfl | hb
    · intro hh; exact hlow a ha hh
    · obtain ⟨i, hi, rfl⟩ := List.getElem_of_mem ha
      obtain ⟨j, hj, rfl⟩ := List.getElem_of_mem hb
      simp at hi hj
      have := List.pairwise_iff_getElem.1 hs i (k + j) (by omega) (by omega) (by omega)
      simpa using this
/-- Row by row: what comes out of a heap is what stands first in order. -/
theorem heap_first {l F : List PE} (h : HeapN l l.length) (hp : l.Perm F) (hs : InOrder F) {x y : PE} (hx : l[0]? = some x) (hy : F[0]? = some y) : x = y := by
  have hyl : y ∈ l := hp.mem_iff.2 (List.mem_of_getElem? hy)
  have hxF : x ∈ F := hp.mem_iff.1 (List.mem_of_getElem? hx)
  obtain ⟨i, hi⟩ := List.getElem?_of_mem hyl
  have h1 := heap_min h hx i y hi
  obtain ⟨j, hj⟩ := List.getElem?_of_mem hxF
  have h2 : ¬ LtE x y := by
    by_cases h0 : j = 0
    · subst h0; rw [hy] at hj; cases hj; exact LtE.irrefl _
    · have := List.pairwise_iff_getElem.1 hs 0 j (List.getElem?_eq_some_iff.1 hy).1 (List.getElem?_eq_some_iff.1 hj).1 (by omega)
      rw [(List.getElem?_eq_some_iff.1 hy).2, (List.getElem?_eq_some_iff.1 hj).2] at this
      exact this
  rcases LtE.or h1 with h3 | h3
  · exact h3.symm
  · exact absurd h3 h2
end Go.Proofs.Ytglhdoibglafbaa
