/- A heap in a row of pairs; a row that is in order (no program in sight). -/
import Derived.Test.YtglhdoibglafbaaG1
namespace Go.Proofs.Ytglhdoibglafbaa
set_option maxRecDepth 100000
set_option linter.unusedVariables false

abbrev PE := Int × Int
/-- Of places i and j: what stands at i does not come ahead of what stands at j. -/
def NotLt (l : List PE) (i j : Nat) : Prop := ∀ x y, l[i]? = some x → l[j]? = some y → ¬ LtE x y
def HeapN (l : List PE) (n : Nat) : Prop := ∀ i, 0 < i → i < n → NotLt l i ((i - 1) / 2)
def UpInv (l : List PE) (j : Nat) : Prop := (∀ i, 0 < i → i < l.length → i ≠ j → NotLt l i ((i - 1) / 2)) ∧ (∀ i, 0 < i → i < l.length → (i - 1) / 2 = j → 0 < j → NotLt l i ((j - 1) / 2))
def DownInv (l : List PE) (n i : Nat) : Prop := (∀ k, 0 < k → k < n → (k - 1) / 2 ≠ i → NotLt l k ((k - 1) / 2)) ∧ (∀ k, 0 < k → k < n → (k - 1) / 2 = i → 0 < i → NotLt l k ((i - 1) / 2))
def swapL (l : List PE) (i j : Nat) : List PE := match l[i]?, l[j]? with
  | some x, some y => (l.set i y).set j x
  | _, _ => l

theorem LtE.asymm {a b : PE} (h : LtE a b) : ¬ LtE b a := fun k => LtE.irrefl a (h.trans k)
theorem le_trans' {a b c : PE} (h : ¬ LtE b a) (k : ¬ LtE c b) : ¬ LtE c a := by unfold LtE at *; omega

theorem swapL_eq {l : List PE} {i j : Nat} {x y : PE} (hi : l[i]? = some x) (hj : l[j]? = some y) : swapL l i j = (l.set i y).set j x := by unfold swapL; rw [hi, hj]
theorem swapL_length (l : List PE) (i j : Nat) : (swapL l i j).length = l.length := by
  unfold swapL; split <;> simp
theorem swapL_perm (l : List PE) (i j : Nat) : (swapL l i j).Perm l := by
  unfold swapL
  split
  · rename_i x y hi hj
    obtain ⟨h1, rfl⟩ := List.getElem?_eq_some_iff.1 hi
    obtain ⟨h2, rfl⟩ := List.getElem?_eq_some_iff.1 hj
    exact List.set_set_perm h1 h2
  · exact List.Perm.refl _
theorem swapL_get {l : List PE} {i j : Nat} {x y : PE} (hi : l[i]? = some x) (hj : l[j]? = some y) (k : Nat) : (swapL l i j)[k]? = if k = j then some x else if k = i then some y else l[k]? := by
  have h1 := (List.getElem?_eq_some_iff.1 hi).1
  have h2 := (List.getElem?_eq_some_iff.1 hj).1
  rw [swapL_eq hi hj, List.getElem?_set, List.getElem?_set]
  by_cases e1 : j = k
  · subst e1; simp [h2]
  · have e1' : ¬ k = j := fun h => e1 h.symm
    rw [if_neg e1, if_neg e1']
    by_cases e2 : i = k
    · subst e2; simp [h1]
    · have e2' : ¬ k = i := fun h => e2 h.symm
      rw [if_neg e2, if_neg e2']

theorem up_step {l : List PE} {j : Nat} (h : UpInv l j) (hj : 0 < j) (hjl : j < l.length) {x y : PE} (hx : l[j]? = some x) (hy : l[(j - 1) / 2]? = some y) (hlt : LtE x y) : UpInv (swapL l ((j - 1) / 2) j) ((j - 1) / 2) := by
  have hp : (j - 1) / 2 < j := by omega
  have G := fun k => swapL_get hy hx k
  constructor
  · intro i h0 hil hne a b ha hb
    rw [swapL_length] at hil
    rw [G] at ha hb
    by_cases e1 : i = j
    · rw [if_pos e1] at ha; cases ha
      rw [e1, if_neg (by omega), if_pos rfl] at hb; cases hb
      exact hlt.asymm
    · rw [if_neg e1, if_neg hne] at ha
      by_cases e2 : (i - 1) / 2 = j
      · rw [if_pos e2] at hb; cases hb
        exact h.2 i h0 hil e2 hj a _ ha hy
      · rw [if_neg e2] at hb
        by_cases e3 : (i - 1) / 2 = (j - 1) / 2
        · rw [if_pos e3] at hb; cases hb
          have h3 := h.1 i h0 hil e1 a y ha (by rw [e3]; exact hy)
          unfold LtE at *; omega
        · rw [if_neg e3] at hb
          exact h.1 i h0 hil e1 a b ha hb
  · intro i h0 hil hpi hp0 a b ha hb
    rw [swapL_length] at hil
    rw [G] at ha hb
    rw [if_neg (by omega), if_neg (by omega)] at hb
    have h4 := h.1 ((j - 1) / 2) hp0 (by omega) (by omega) y b hy hb
    by_cases e1 : i = j
    · rw [if_pos e1] at ha; cases ha
      exact h4
    · rw [if_neg e1, if_neg (by omega)] at ha
      have h3 := h.1 i h0 hil e1 a y ha (by rw [hpi]; exact hy)
      unfold LtE at *; omega
theorem up_end {l : List PE} {j : Nat} (h : UpInv l j) (he : j = 0 ∨ NotLt l j ((j - 1) / 2)) : HeapN l l.length := by
  intro i h0 hi
  by_cases e : i = j
  · subst e
    rcases he with he | he
    · omega
    · exact he
  · exact h.1 i h0 hi e
theorem up_start {l : List PE} (h : HeapN l l.length) (e : PE) : UpInv (l ++ [e]) l.length := by
  constructor
  · intro i h0 hi hne a b ha hb
    simp at hi
    rw [List.getElem?_append_left (by omega)] at ha hb
    exact h i h0 (by omega) a b ha hb
  · intro i h0 hi hp
    simp at hi
    omega

theorem down_step {l : List PE} {n i j : Nat} (h : DownInv l n i) (hn : n ≤ l.length) (hj0 : 0 < j) (hjn : j < n) (hpj : (j - 1) / 2 = i) {x y : PE} (hx : l[i]? = some x) (hy : l[j]? = some y) (hlt : LtE y x)
    (hmin : ∀ k z, 0 < k → k < n → (k - 1) / 2 = i → l[k]? = some z → ¬ LtE z y) : DownInv (swapL l i j) n j := by
  have hij : i < j := by omega
  have G := fun k => swapL_get hx hy k
  constructor
  · intro k h0 hk hne a b ha hb
    rw [G] at ha hb
    rw [if_neg hne] at hb
    by_cases e1 : k = j
    · rw [if_pos e1] at ha; cases ha
      rw [if_pos (by rw [e1]; exact hpj)] at hb; cases hb
      exact hlt.asymm
    · rw [if_neg e1] at ha
      by_cases e2 : k = i
      · rw [if_pos e2] at ha; cases ha
        rw [if_neg (by omega)] at hb
        exact h.2 j hj0 hjn hpj (by omega) y b hy (by rw [← e2]; exact hb)
      · rw [if_neg e2] at ha
        by_cases e3 : (k - 1) / 2 = i
        · rw [if_pos e3] at hb; cases hb
          exact hmin k a h0 hk e3 ha
        · rw [if_neg e3] at hb
          exact h.1 k h0 hk e3 a b ha hb
  · intro k h0 hk hp hjp a b ha hb
    rw [G] at ha hb
    rw [hpj, if_neg (by omega), if_pos rfl] at hb; cases hb
    rw [if_neg (by omega), if_neg (by omega)] at ha
    exact h.1 k h0 hk (by omega) a y ha (by rw [hp]; exact hy)
theorem down_end {l : List PE} {n i : Nat} (h : DownInv l n i) (he : ∀ k, 0 < k → k < n → (k - 1) / 2 = i → NotLt l k i) : HeapN l n := by
  intro k h0 hk
  by_cases e : (k - 1) / 2 = i
  · rw [e]; exact he k h0 hk e
  · exact h.1 k h0 hk e
theorem down_start {l : List PE} {n : Nat} (h : HeapN l l.length) (hn : n + 1 = l.length) : DownInv (swapL l 0 n) n 0 := by
  obtain ⟨x, hx⟩ : ∃ x, l[0]? = some x := ⟨l[0], by simp⟩
  obtain ⟨y, hy⟩ : ∃ y, l[n]? = some y := ⟨l[n], by simp⟩
  constructor
  · intro k h0 hk hne a b ha hb
    rw [swapL_get hx hy, if_neg (by omega), if_neg (by omega)] at ha hb
    exact h k h0 (by omega) a b ha hb
  · intro k h0 hk hp h1
    omega
theorem heap_min {l : List PE} (h : HeapN l l.length) {x : PE} (hx : l[0]? = some x) : ∀ (i : Nat) (y : PE), l[i]? = some y → ¬ LtE y x := by
  intro i
  induction i using Nat.strongRecOn with
  | _ i ih =>
    intro y hy
    by_cases h0 : i = 0
    · subst h0; rw [hx] at hy; cases hy; exact LtE.irrefl _
    · have hl := (List.getElem?_eq_some_iff.1 hy).1
      obtain ⟨z, hz⟩ : ∃ z, l[(i - 1) / 2]? = some z := ⟨l[(i - 1) / 2]'(by omega), by simp⟩
      exact le_trans' (ih _ (by omega) z hz) (h i (by omega) hl y z hy hz)

/-- In order. -/
def InOrder (l : List PE) : Prop := l.Pairwise fun a b => ¬ LtE b a
theorem putK_spec' (es : List PE) (e : PE) (hs : InOrder es) : ∀ m, m ≤ es.length → (∀ j d, putK es e m ≤ j → j < m → es[j]? = some d → LtE e d) ∧ (∀ d, 0 < putK es e m → es[putK es e m - 1]? = some d → ¬ LtE e d) := by
  intro m
  induction m with
  | zero => intro _; exact ⟨fun j d _ h => by omega, fun d h => by simp [putK] at h⟩
  | succ m ih =>
    intro hm
    obtain ⟨d0, hd0⟩ : ∃ d, es[m]? = some d := ⟨es[m], by simp⟩
    have hk : putK es e (m + 1) = if ltE e d0 = true then putK es e m else m + 1 := by
      conv => lhs; unfold putK
      rw [hd0]
    rw [hk]
    by_cases h : ltE e d0 = true
    · rw [if_pos h]
      obtain ⟨h1, h2⟩ := ih (by omega)
      refine ⟨fun j d hj hjm hd => ?_, h2⟩
      by_cases hjm' : j = m
      · subst hjm'; rw [hd0] at hd; cases hd; exact (ltE_iff _ _).1 h
      · exact h1 j d hj (by omega) hd
    · rw [if_neg h]
      refine ⟨fun j d hj hjm hd => by omega, fun d _ hd => ?_⟩
      rw [Nat.add_sub_cancel, hd0] at hd; cases hd
      exact fun hh => h ((ltE_iff _ _).2 hh)
theorem putE_perm (es : List PE) (e : PE) : (putE es e).Perm (e :: es) := by
  unfold putE
  have := List.take_append_drop (putK es e es.length) es
  conv => rhs; rw [← this]
  exact List.perm_middle
theorem putE_order {es : List PE} (e : PE) (hs : InOrder es) : InOrder (putE es e) := by
  obtain ⟨h1, h2⟩ := putK_spec' es e hs es.length (Nat.le_refl _)
  have hk := putK_le es e es.length
  unfold putE
  generalize putK es e es.length = k at *
  unfold InOrder at *
  rw [List.pairwise_append]
  have hlow : ∀ a ∈ es.take k, ¬ LtE e a := by
    intro a ha
    obtain ⟨i, hi⟩ := List.getElem?_of_mem ha
    rw [List.getElem?_take] at hi
    split at hi
    · rename_i hik0
      have hil := (List.getElem?_eq_some_iff.1 hi).1
      obtain ⟨d, hd⟩ : ∃ d, es[k - 1]? = some d := ⟨es[k - 1]'(by omega), by simp⟩
      have h3 := h2 d (by omega) hd
      by_cases hik : i = k - 1
      · subst hik
        rw [hi] at hd; cases hd
        exact h3
      · have := List.pairwise_iff_getElem.1 hs i (k - 1) (by omega) (by omega) (by omega)
        rw [(List.getElem?_eq_some_iff.1 hd).2, (List.getElem?_eq_some_iff.1 hi).2] at this
        unfold LtE at *; omega
    · cases hi
  refine ⟨hs.sublist (List.take_sublist _ _), List.pairwise_cons.2 ⟨fun b hb => ?_, hs.sublist (List.drop_sublist _ _)⟩, fun a ha b hb => ?_⟩
  · obtain ⟨i, hi, rfl⟩ := List.getElem_of_mem hb
    simp at hi
    have h4 := h1 (k + i) ((es.drop k)[i]) (by omega) (by omega) (by simp)
    exact h4.asymm
  · rcases List.mem_cons.1 hb with rfl | hb
    · intro hh; exact hlow a ha hh
    · obtain ⟨i, hi, rfl⟩ := List.getElem_of_mem ha
      obtain ⟨j, hj, rfl⟩ := List.getElem_of_mem hb
      simp at hi hj
      have := List.pairwise_iff_getElem.1 hs i (k + j) (by omega) (by omega) (by omega)
      simpa using this
/-- Row by row: what comes out of a heap is what stands first in order. -/
theorem heap_first {l F : List PE} (h : HeapN l l.length) (hp : l.Perm F) (hs : InOrder F) {x y : PE} (hx : l[0]? = some x) (hy : F[0]? = some y) : x = y := by
  have hyl : y ∈ l := hp.mem_iff.2 (List.mem_of_getElem? hy)
  have hxF : x ∈ F := hp.mem_iff.1 (List.mem_of_getElem? hx)
  obtain ⟨i, hi⟩ := List.getElem?_of_mem hyl
  have h1 := heap_min h hx i y hi
  obtain ⟨j, hj⟩ := List.getElem?_of_mem hxF
  have h2 : ¬ LtE x y := by
    by_cases h0 : j = 0
    · subst h0; rw [hy] at hj; cases hj; exact LtE.irrefl _
    · have := List.pairwise_iff_getElem.1 hs 0 j (List.getElem?_eq_some_iff.1 hy).1 (List.getElem?_eq_some_iff.1 hj).1 (by omega)
      rw [(List.getElem?_eq_some_iff.1 hy).2, (List.getElem?_eq_some_iff.1 hj).2] at this
      exact this
  rcases LtE.or h1 with h3 | h3
  · exact h3.symm
  · exact absurd h3 h2
end Go.Proofs.Ytglhdoibglafbaa
