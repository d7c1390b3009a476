/- A cycle's matchings (no program in sight). -/
import Derived.Test.YtgddfmfiiodgbaaU28
import Derived.Test.YtgddfmfiiodgbaaU33
import Derived.Test.YtgddfmfiiodgbaaU09
import Derived.Test.YtgddfmfiiodgbaaU19
import Derived.Laws.Entries
import Derived.WalkSpells
import Derived.WalkKit
namespace Go.Proofs.Ytgddfmfiiodgbaa
set_option linter.unusedVariables false
set_option linter.unusedSimpArgs false

/-- Pair by pair. -/
def evenM (n v : Nat) : Option Nat := if v % 2 = 0 then (if v + 1 < n then some (v + 1) else none) else (if v < n then some (v - 1) else none)
theorem evenM_mat {n : Nat} {E : Nat → Nat → Prop} (hg : IsGr n E) (hc : ∀ v, v < n → E v ((v + 1) % n)) : IsMat n E (evenM n) := by
  have hval : ∀ v w, evenM n v = some w → (v % 2 = 0 ∧ w = v + 1 ∧ v + 1 < n) ∨ (v % 2 = 1 ∧ v = w + 1 ∧ v < n) := by
    intro v w h
    unfold evenM at h
    by_cases h1 : v % 2 = 0
    · rw [if_pos h1] at h
      by_cases h2 : v + 1 < n
      · rw [if_pos h2] at h; cases h; exact .inl ⟨h1, rfl, h2⟩
      · rw [if_neg h2] at h; cases h
    · rw [if_neg h1] at h
      by_cases h2 : v < n
      · rw [if_pos h2] at h; cases h; exact .inr ⟨by omega, by omega, h2⟩
      · rw [if_neg h2] at h; cases h
  refine ⟨fun {v w} h => ?_, fun {v w} h => ?_, fun {v w} h => ?_⟩
  · rcases hval v w h with ⟨h1, rfl, h2⟩ | ⟨h1, rfl, h2⟩
    · unfold evenM; rw [if_neg (by omega), if_pos h2]; rfl
    · unfold evenM; rw [if_pos (by omega), if_pos h2]
  · rcases hval v w h with ⟨h1, rfl, h2⟩ | ⟨h1, rfl, h2⟩
    · have := hc v (by omega); rw [Nat.mod_eq_of_lt h2] at this; exact this
    · have := hc w (by omega); rw [Nat.mod_eq_of_lt h2] at this; exact hg.symm this
  · rcases hval v w h with ⟨h1, rfl, h2⟩ | ⟨h1, rfl, h2⟩ <;> omega
theorem len_one {l : List Nat} {a : Nat} (hn : l.Nodup) (h : ∀ x ∈ l, x = a) : l.length ≤ 1 := by
  match l with
  | [] => simp
  | [x] => simp
  | x :: y :: l =>
    have h1 := h x (by simp)
    have h2 := h y (by simp)
    have := (List.nodup_cons.1 hn).1
    rw [h1, h2] at this
    simp at this
/-- Of a graph with a cycle through all vertices: half of them, rounded down. -/
theorem cycle_size {n : Nat} {E : Nat → Nat → Prop} {M : Nat → Option Nat} (hg : IsGr n E) (hc : ∀ v, v < n → E v ((v + 1) % n)) (hM : IsMat n E M) (hno : ∀ p, ¬ AugW E M p) : sizeM n M = n / 2 := by
  have h1 := evenM_mat hg hc
  have h2 := size_free hg h1
  have h3 := size_free hg hM
  have h4 := size_max hg hM h1 hno
  have h5 : (freeL n (evenM n)).length ≤ 1 := len_one (nodup_freeL n _) (a := n - 1) fun x hx => by
    obtain ⟨h6, h7⟩ := mem_freeL.1 hx
    unfold evenM at h7
    by_cases h8 : x % 2 = 0
    · rw [if_pos h8] at h7
      by_cases h9 : x + 1 < n
      · rw [if_pos h9] at h7; cases h7
      · omega
    · rw [if_neg h8, if_pos h6] at h7; cases h7
  omega
end Go.Proofs.Ytgddfmfiiodgbaa

/- Which edges largest matchings have (no program in sight). -/
namespace Go.Proofs.Ytgddfmfiiodgbaa
set_option linter.unusedVariables false
set_option linter.unusedSimpArgs false

section
variable {n : Nat} {E : Nat → Nat → Prop} {M M' : Nat → Option Nat} {a b : Nat}

/-- Without two vertices. -/
def lessV (E : Nat → Nat → Prop) (a b : Nat) : Nat → Nat → Prop := fun u v => E u v ∧ u ≠ a ∧ u ≠ b ∧ v ≠ a ∧ v ≠ b
/-- Without an edge. -/
def lessE (E : Nat → Nat → Prop) (a b : Nat) : Nat → Nat → Prop := fun u v => E u v ∧ ¬ (u = a ∧ v = b) ∧ ¬ (u = b ∧ v = a)
theorem lessV_gr (hg : IsGr n E) : IsGr n (lessV E a b) := ⟨fun h => ⟨hg.symm h.1, h.2.2.2.1, h.2.2.2.2, h.2.1, h.2.2.1⟩, fun h => hg.lt h.1, fun v h => hg.irr v h.1⟩
theorem lessE_gr (hg : IsGr n E) : IsGr n (lessE E a b) := ⟨fun h => ⟨hg.symm h.1, fun k => h.2.2 ⟨k.2, k.1⟩, fun k => h.2.1 ⟨k.2, k.1⟩⟩, fun h => hg.lt h.1, fun v h => hg.irr v h.1⟩
theorem IsMat.up {E' : Nat → Nat → Prop} (h : IsMat n E' M) (hs : ∀ u v, E' u v → E u v) : IsMat n E M := ⟨h.symm, fun k => hs _ _ (h.edge k), h.lt⟩
theorem IsMat.to {E' : Nat → Nat → Prop} (h : IsMat n E M) (hs : ∀ u v, M u = some v → E' u v) : IsMat n E' M := ⟨h.symm, fun k => hs _ _ k, h.lt⟩

/-- A vertex and its mate parted. -/
def partM (M : Nat → Option Nat) (v : Nat) : Nat → Option Nat := match M v with | some w => upd (upd M v none) w none | none => M
theorem partM_none {v : Nat} (h : M v = none) : partM M v = M := by unfold partM; rw [h]
theorem partM_some {v w : Nat} (h : M v = some w) : partM M v = upd (upd M v none) w none := by unfold partM; rw [h]
theorem partM_mat (hg : IsGr n E) (hM : IsMat n E M) (v : Nat) : IsMat n E (partM M v) := by
  cases h : M v with
  | none => rw [partM_none h]; exact hM
  | some w => rw [partM_some h]; exact (part_size hg hM h).1
theorem partM_val (hg : IsGr n E) (hM : IsMat n E M) {v x y : Nat} (h : partM M v x = some y) : x ≠ v ∧ M x = some y := by
  cases hm : M v with
  | none => rw [partM_none hm] at h; exact ⟨fun e => (by rw [e, hm] at h; cases h), h⟩
  | some w => rw [partM_some hm] at h; have := (part_size hg hM hm).2.2 x y h; exact ⟨this.1, this.2.2⟩
theorem partM_free (hg : IsGr n E) (hM : IsMat n E M) (v : Nat) : partM M v v = none := by
  cases hm : partM M v v with
  | none => rfl
  | some y => exact absurd rfl (partM_val hg hM hm).1

/-- What uses leaves. -/
def UsesP (n : Nat) (E : Nat → Nat → Prop) (M : Nat → Option Nat) (a b : Nat) : Option (Nat → Option Nat) → Prop
  | some M2 => IsMat n E M2 ∧ sizeM n M2 = sizeM n M ∧ M2 a = some b
  | none => ∀ M2, IsMat n E M2 → M2 a = some b → sizeM n M2 < sizeM n M
def AvoidsP (n : Nat) (E : Nat → Nat → Prop) (M : Nat → Option Nat) (a b : Nat) : Option (Nat → Option Nat) → Prop
  | some M2 => IsMat n E M2 ∧ sizeM n M2 = sizeM n M ∧ M2 a ≠ some b
  | none => ∀ M2, IsMat n E M2 → M2 a ≠ some b → sizeM n M2 < sizeM n M

/-- Both have mates, not each other. -/
theorem two_part (hg : IsGr n E) (hM : IsMat n E M) (hE : E a b) (hab : M a ≠ some b) (ha : M a ≠ none) (hb : M b ≠ none) :
    IsMat n (lessV E a b) (partM (partM M a) b) ∧ sizeM n M = sizeM n (partM (partM M a) b) + 2 := by
  obtain ⟨x, hx⟩ := Option.ne_none_iff_exists'.1 ha
  obtain ⟨y, hy⟩ := Option.ne_none_iff_exists'.1 hb
  have hne : a ≠ b := fun e => hg.irr a (by rw [← e] at hE; exact hE)
  obtain ⟨g1, g2, g3⟩ := part_size hg hM hx
  have hbx : b ≠ x := fun e => hab (by rw [hx, e])
  have hy' : partM M a b = some y := by rw [partM_some hx, upd_ne _ _ hbx, upd_ne _ _ (Ne.symm hne)]; exact hy
  have h1 := partM_mat hg hM a
  obtain ⟨k1, k2, k3⟩ := part_size hg h1 hy'
  have h2 := partM_mat hg h1 b
  have hv : ∀ u v, partM (partM M a) b u = some v → u ≠ a ∧ u ≠ b := fun u v h => by
    have e1 := partM_val hg h1 h
    exact ⟨(partM_val hg hM e1.2).1, e1.1⟩
  refine ⟨h2.to fun u v h => ⟨h2.edge h, (hv u v h).1, (hv u v h).2, (hv v u (h2.symm h)).1, (hv v u (h2.symm h)).2⟩, ?_⟩
  rw [← partM_some hx] at g2
  rw [← partM_some hy'] at k2
  omega

theorem uses_yes (hg : IsGr n E) (hM : IsMat n E M) (hE : E a b) (hab : M a ≠ some b) (ha : M a ≠ none) (hb : M b ≠ none) {p : List Nat} (hp : AugW (lessV E a b) (partM (partM M a) b) p) :
    UsesP n E M a b (some (upd (upd (turnF p (partM (partM M a) b)) a (some b)) b (some a))) := by
  obtain ⟨h1, h2⟩ := two_part hg hM hE hab ha hb
  have h3 := hp.turn (lessV_gr hg) h1
  have h4 := size_turn (lessV_gr hg) h1 hp
  generalize turnF p (partM (partM M a) b) = N at h3 h4 ⊢
  have fa : N a = none := by
    cases h : N a with
    | none => rfl
    | some z => exact absurd rfl (h3.1.edge h).2.1
  have fb : N b = none := by
    cases h : N b with
    | none => rfl
    | some z => exact absurd rfl (h3.1.edge h).2.2.1
  have h5 := pair_size hg (h3.1.up fun u v h => h.1) hE fa fb
  have hne : a ≠ b := fun e => hg.irr a (by rw [← e] at hE; exact hE)
  exact ⟨h5.1, by omega, by rw [upd_ne _ _ hne, upd_same]⟩
theorem uses_no (hg : IsGr n E) (hM : IsMat n E M) (hE : E a b) (hab : M a ≠ some b) (ha : M a ≠ none) (hb : M b ≠ none) (hno : ∀ p, ¬ AugW (lessV E a b) (partM (partM M a) b) p) : UsesP n E M a b none := by
  obtain ⟨h1, h2⟩ := two_part hg hM hE hab ha hb
  intro M2 h3 h4
  obtain ⟨g1, g2, g3⟩ := part_size hg h3 h4
  have h5 := size_max (lessV_gr hg) h1 (g1.to (E' := lessV E a b) fun u v h => by
    obtain ⟨e1, e2, e3⟩ := g3 u v h
    obtain ⟨e4, e5, e6⟩ := g3 v u (g1.symm h)
    exact ⟨h3.edge e3, e1, e2, e4, e5⟩) hno
  omega
theorem uses_one (hg : IsGr n E) (hM : IsMat n E M) (hno : ∀ p, ¬ AugW E M p) (hE : E a b) (hab : M a ≠ some b) (h : M a = none ∨ M b = none) :
    UsesP n E M a b (some (upd (upd (partM (partM M a) b) a (some b)) b (some a))) := by
  have hne : a ≠ b := fun e => hg.irr a (by rw [← e] at hE; exact hE)
  have h1 := partM_mat hg hM a
  have h2 := partM_mat hg h1 b
  have fb := partM_free hg h1 b
  have fa : partM (partM M a) b a = none := by
    cases h3 : partM (partM M a) b a with
    | none => rfl
    | some y => exact absurd (partM_free hg hM a) (by rw [(partM_val hg h1 h3).2]; simp)
  have h5 := pair_size hg h2 hE fa fb
  refine ⟨h5.1, ?_, by rw [upd_ne _ _ hne, upd_same]⟩
  rw [h5.2]
  cases ha : M a with
  | none =>
    rw [partM_none ha]
    cases hb : M b with
    | none => exact absurd ⟨a, b, [], rfl, ha, hE, .root hb, by simp [hne]⟩ (hno [a, b])
    | some y =>
      have := (part_size hg hM hb).2.1
      rw [partM_some hb]; omega
  | some x =>
    rcases h with h | h
    · rw [ha] at h; cases h
    · have hb : partM M a b = none := by
        cases h3 : partM M a b with
        | none => rfl
        | some y => have := (partM_val hg hM h3).2; rw [h] at this; cases this
      rw [partM_none hb]
      have := (part_size hg hM ha).2.1
      rw [partM_some ha]; omega
theorem uses_own (hM : IsMat n E M) (h : M a = some b) : UsesP n E M a b (some M) := ⟨hM, rfl, h⟩
theorem avoids_own (hM : IsMat n E M) (h : M a ≠ some b) : AvoidsP n E M a b (some M) := ⟨hM, rfl, h⟩
theorem avoids_mat (hg : IsGr n E) (hM : IsMat n E M) (h : M a = some b) : IsMat n (lessE E a b) (partM M a) := by
  have h1 := partM_mat hg hM a
  exact h1.to fun u v k => ⟨h1.edge k, fun e => (partM_val hg hM k).1 e.1, fun e => (partM_val hg hM (h1.symm k)).1 e.2⟩
theorem avoids_yes (hg : IsGr n E) (hM : IsMat n E M) (h : M a = some b) {p : List Nat} (hp : AugW (lessE E a b) (partM M a) p) : AvoidsP n E M a b (some (turnF p (partM M a))) := by
  have h1 := avoids_mat hg hM h
  have h3 := hp.turn (lessE_gr hg) h1
  have h4 := size_turn (lessE_gr hg) h1 hp
  have h5 := (part_size hg hM h).2.1
  rw [← partM_some h] at h5
  exact ⟨h3.1.up fun u v k => k.1, by omega, fun e => (h3.1.edge e).2.1 ⟨rfl, rfl⟩⟩
theorem avoids_no (hg : IsGr n E) (hM : IsMat n E M) (h : M a = some b) (hno : ∀ p, ¬ AugW (lessE E a b) (partM M a) p) : AvoidsP n E M a b none := by
  intro M2 h2 h3
  have h1 := avoids_mat hg hM h
  have h5 := (part_size hg hM h).2.1
  rw [← partM_some h] at h5
  have := size_max (lessE_gr hg) h1 (h2.to (E' := lessE E a b) fun u v k => ⟨h2.edge k, fun e => h3 (by rw [← e.1, ← e.2]; exact k), fun e => h3 (by rw [← e.1, ← e.2]; exact h2.symm k)⟩) hno
  omega
end
end Go.Proofs.Ytgddfmfiiodgbaa

/- A path that augments, one by one (no program in sight). -/
namespace Go.Proofs.Ytgddfmfiiodgbaa
set_option linter.unusedVariables false
set_option linter.unusedSimpArgs false

section
variable {n : Nat} {E : Nat → Nat → Prop} {M : Nat → Option Nat}

theorem EvenW.idx (hM : IsMat n E M) {p : List Nat} (h : EvenW E M p) : ∀ i x y, p[i]? = some x → p[i + 1]? = some y → E x y ∧ (i % 2 = 0 → M x = some y) := by
  induction h with
  | root h => intro i x y _ hy; simp at hy
  | @step v m u l h1 h2 h3 ih =>
    intro i x y hx hy
    match i with
    | 0 => simp at hx hy; subst hx hy; exact ⟨hM.edge h1, fun _ => h1⟩
    | 1 => simp at hx hy; subst hx hy; exact ⟨h2, fun h => by omega⟩
    | i + 2 =>
      have := ih i x y (by simpa using hx) (by simpa using hy)
      exact ⟨this.1, fun h => this.2 (by omega)⟩
theorem EvenW.end_free (hM : IsMat n E M) {p : List Nat} (h : EvenW E M p) : ∃ r, p[p.length - 1]? = some r ∧ M r = none := by
  obtain ⟨l, r, rfl, h1, _⟩ := h.root_only hM
  exact ⟨r, by simp, h1⟩
theorem nodup_idx {p : List Nat} (hn : p.Nodup) {i j x : Nat} (hi : p[i]? = some x) (hj : p[j]? = some x) : i = j := by
  have h1 := (List.getElem?_eq_some_iff.1 hi).1
  exact (List.getElem?_inj h1 hn).1 (hi.trans hj.symm)

/-- What holds of it. -/
structure AugI (E : Nat → Nat → Prop) (M : Nat → Option Nat) (p : List Nat) : Prop where
  len : 2 ≤ p.length
  nd : p.Nodup
  e : ∀ i x y, p[i]? = some x → p[i + 1]? = some y → E x y
  own : ∀ i x y, p[i]? = some x → p[i + 1]? = some y → (M x = some y ↔ i % 2 = 1)
  f0 : ∀ x, p[0]? = some x → M x = none
  f1 : ∀ x, p[p.length - 1]? = some x → M x = none

theorem AugW.augI (hM : IsMat n E M) {p : List Nat} (h : AugW E M p) : AugI E M p := by
  obtain ⟨v, u, l, rfl, hf, hE, hp, hn⟩ := h
  have hi := hp.idx hM
  have hown : ∀ i x y, (v :: u :: l)[i]? = some x → (v :: u :: l)[i + 1]? = some y → i % 2 = 1 → M x = some y := by
    intro i x y hx hy h1
    obtain ⟨j, rfl⟩ : ∃ j, i = j + 1 := ⟨i - 1, by omega⟩
    exact (hi j x y (by simpa using hx) (by simpa using hy)).2 (by omega)
  refine ⟨by simp, hn, fun i x y hx hy => ?_, fun i x y hx hy => ⟨fun hm => ?_, hown i x y hx hy⟩, fun x hx => ?_, fun x hx => ?_⟩
  · match i with
    | 0 => simp at hx hy; subst hx hy; exact hE
    | i + 1 => exact (hi i x y (by simpa using hx) (by simpa using hy)).1
  · rcases Nat.mod_two_eq_zero_or_one i with h0 | h0
    · match i with
      | 0 => simp at hx; subst hx; rw [hf] at hm; cases hm
      | i + 1 =>
        obtain ⟨z, hz⟩ : ∃ z, (v :: u :: l)[i]? = some z := by
          have := (List.getElem?_eq_some_iff.1 hx).1
          exact ⟨_, List.getElem?_eq_getElem (show i < (v :: u :: l).length by omega)⟩
        have h2 := hown i z x hz hx (by omega)
        have h3 := hM.symm h2
        rw [hm] at h3
        cases h3
        have := nodup_idx hn hz hy
        omega
    · exact h0
  · simp at hx; subst hx; exact hf
  · obtain ⟨r, h1, h2⟩ := hp.end_free hM
    have h3 : (v :: u :: l)[(v :: u :: l).length - 1]? = (u :: l)[(u :: l).length - 1]? := by
      simp
    rw [h3, h1] at hx
    cases hx; exact h2
end
end Go.Proofs.Ytgddfmfiiodgbaa

/- Bits of small numbers. -/
namespace Go.Proofs.Ytgddfmfiiodgbaa
open Go Go.RowKit
set_option linter.unusedVariables false
set_option linter.unusedSimpArgs false

theorem bit_ofInt (x : Nat) : BitVec.ofInt 64 (x : Int) = BitVec.ofNat 64 x := BitVec.ofInt_natCast 64 x
theorem bit_wrap (x : Nat) (h : x < 2 ^ 62) : IntKind.i64.wrap (x : Int) = (x : Int) := by rw [IntKind.wrap_i64]; omega
theorem bits_or (a b : Nat) (ha : a < 2 ^ 62) (hb : b < 2 ^ 62) : bits .or .i64 (a : Int) (b : Int) = ((a ||| b : Nat) : Int) := by
  have h : (BitVec.ofNat 64 a ||| BitVec.ofNat 64 b).toNat = a ||| b := by
    rw [BitVec.toNat_or, BitVec.toNat_ofNat, BitVec.toNat_ofNat, Nat.mod_eq_of_lt (by omega), Nat.mod_eq_of_lt (by omega)]
  have h2 : a ||| b < 2 ^ 62 := Nat.or_lt_two_pow ha hb
  show IntKind.i64.wrap (((BitVec.ofInt 64 (a : Int) ||| BitVec.ofInt 64 (b : Int)).toNat : Nat) : Int) = _
  rw [bit_ofInt, bit_ofInt, h]
  exact bit_wrap _ h2
theorem bits_and (a b : Nat) (ha : a < 2 ^ 62) (hb : b < 2 ^ 62) : bits .and .i64 (a : Int) (b : Int) = ((a &&& b : Nat) : Int) := by
  have h : (BitVec.ofNat 64 a &&& BitVec.ofNat 64 b).toNat = a &&& b := by
    rw [BitVec.toNat_and, BitVec.toNat_ofNat, BitVec.toNat_ofNat, Nat.mod_eq_of_lt (by omega), Nat.mod_eq_of_lt (by omega)]
  have h2 : a &&& b < 2 ^ 62 := Nat.lt_of_le_of_lt Nat.and_le_left ha
  show IntKind.i64.wrap (((BitVec.ofInt 64 (a : Int) &&& BitVec.ofInt 64 (b : Int)).toNat : Nat) : Int) = _
  rw [bit_ofInt, bit_ofInt, h]
  exact bit_wrap _ h2
theorem bits_andNot (a b : Nat) (ha : a < 2 ^ 62) (hb : b < 2 ^ 62) : ∃ r : Nat, bits .andNot .i64 (a : Int) (b : Int) = (r : Int) ∧ r ≤ a ∧ ∀ i, r.testBit i = (a.testBit i && !b.testBit i) := by
  obtain ⟨r, hr⟩ : ∃ r, r = (BitVec.ofNat 64 a &&& ~~~BitVec.ofNat 64 b).toNat := ⟨_, rfl⟩
  have hbit : ∀ i, r.testBit i = (a.testBit i && !b.testBit i) := fun i => by
    rw [hr, BitVec.testBit_toNat, BitVec.getLsbD_and, BitVec.getLsbD_not, BitVec.getLsbD_ofNat, BitVec.getLsbD_ofNat]
    by_cases hi : i < 64
    · simp [hi]
    · have h1 : a.testBit i = false := Nat.testBit_lt_two_pow (Nat.lt_of_lt_of_le ha (Nat.pow_le_pow_right (by omega) (by omega)))
      simp [hi, h1]
  have hle : r ≤ a := by
    apply Nat.le_of_testBit
    intro i hi
    rw [hbit] at hi
    simp at hi
    exact hi.1
  refine ⟨r, ?_, hle, hbit⟩
  show IntKind.i64.wrap (((BitVec.ofInt 64 (a : Int) &&& ~~~BitVec.ofInt 64 (b : Int)).toNat : Nat) : Int) = _
  rw [bit_ofInt, bit_ofInt, ← hr]
  exact bit_wrap _ (by omega)
theorem pow_cast (v : Nat) : (2 : Int) ^ v = ((2 ^ v : Nat) : Int) := by push_cast; rfl
theorem wrap_pow {v : Nat} (h : v ≤ 40) : wrap64 ((2 : Int) ^ v) = ((2 ^ v : Nat) : Int) := by
  have h1 : 2 ^ v ≤ 2 ^ 40 := Nat.pow_le_pow_right (by omega) h
  rw [pow_cast]
  generalize 2 ^ v = p at h1 ⊢
  unfold wrap64
  omega
theorem bit_test (s v : Nat) (hs : s < 2 ^ 62) : bits .and .i64 ((s : Int) / 2 ^ v) 1 = if s.testBit v = true then 1 else 0 := by
  have h1 : (s : Int) / 2 ^ v = ((s / 2 ^ v : Nat) : Int) := by rw [pow_cast]; exact (Int.natCast_ediv _ _).symm
  have h2 : s / 2 ^ v < 2 ^ 62 := Nat.lt_of_le_of_lt (Nat.div_le_self _ _) hs
  rw [h1, show (1 : Int) = ((1 : Nat) : Int) from rfl, bits_and _ _ h2 (by omega), Nat.and_one_is_mod]
  have h3 : s.testBit v = decide (s / 2 ^ v % 2 = 1) := by rw [Nat.testBit_eq_decide_div_mod_eq]
  rw [h3]
  by_cases h : s / 2 ^ v % 2 = 1
  · simp [h]
  · have : s / 2 ^ v % 2 = 0 := by omega
    simp [this]
end Go.Proofs.Ytgddfmfiiodgbaa
