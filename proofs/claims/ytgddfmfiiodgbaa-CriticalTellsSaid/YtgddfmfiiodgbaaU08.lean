/- A region that draws its order: operations that read (R), operations that yield the same in whatever world (W), and stores or the like in one forced order (S). One walk, R, then W, then S, serves every order. -/
import Derived.Test.YtgddfmfiiodgbaaU07
namespace Go.Proofs.Ytgddfmfiiodgbaa
open Go Go.RowKit
set_option maxRecDepth 100000
set_option linter.unusedVariables false
set_option linter.unusedSimpArgs false

/-- Those of a list that are marked. -/
def pickL {α : Type} (k : Nat) : List Nat → List α → List α
  | m :: ms, o :: l => if m = k then o :: pickL k ms l else pickL k ms l
  | _, _ => []
def pickI (k : Nat) : List Nat → Nat → List Nat
  | m :: ms, i => if m = k then i :: pickI k ms (i + 1) else pickI k ms (i + 1)
  | [], _ => []

section
variable {P : Program} {md : Region.Mode} {ops : Array Oper}

def QL (P : Program) (ops : Array Oper) (C : World → Prop) (K : Act → Prop) : List Nat → Act → Prop
  | [], a => K a
  | i :: is, a => qOp P ops C i (QL P ops C K is) a
def wOp (P : Program) (ops : Array Oper) (i : Nat) (K : Act → Prop) (a : Act) : Prop := ∃ o v, ops[i]? = some o ∧ Yields P ops o v a ∧ K (a.put o.dst v)
def WL (P : Program) (ops : Array Oper) (K : Act → Prop) : List Nat → Act → Prop
  | [], a => K a
  | i :: is, a => wOp P ops i (WL P ops K is) a
def SL (P : Program) (ops : Array Oper) (Q : Exit → Act → World → Prop) : List Nat → Act → World → Prop
  | [], a, w => Q .normal a w
  | i :: is, a, w => wpOp P ops Q i (SL P ops Q is) a w

theorem QL_mono {C : World → Prop} {K K' : Act → Prop} (h : ∀ a, K a → K' a) : ∀ (l : List Nat) (a : Act), QL P ops C K l a → QL P ops C K' l a
  | [], a, hh => h a hh
  | i :: is, a, hh => qOp_mono (fun a' h' => QL_mono h is a' h') hh
theorem wOp_mono {i : Nat} {K K' : Act → Prop} {a : Act} (h : ∀ a, K a → K' a) : wOp P ops i K a → wOp P ops i K' a
  | ⟨o, v, h1, h2, h3⟩ => ⟨o, v, h1, h2, h _ h3⟩
theorem WL_mono {K K' : Act → Prop} (h : ∀ a, K a → K' a) : ∀ (l : List Nat) (a : Act), WL P ops K l a → WL P ops K' l a
  | [], a, hh => h a hh
  | i :: is, a, hh => wOp_mono (fun a' h' => WL_mono h is a' h') hh

/-- Apart, whichever. -/
def Ap (ops : Array Oper) (i j : Nat) : Prop := ∀ oi oj, ops[i]? = some oi → ops[j]? = some oj → oi.apart ops oj = true

variable (hsel : ∀ (j : Nat) (o : Oper) cs b, ops[j]? = some o → o.op ≠ .select cs b)
include hsel

theorem q_swap {C : World → Prop} {i j : Nat} {K : Act → Prop} {a : Act} (hi : i < ops.size) (hj : j < ops.size) (hap : Ap ops i j) (h : qOp P ops C j (fun a' => qOp P ops C i K a') a) : qOp P ops C i (fun a' => qOp P ops C j K a') a := by
  have h0i : ops[i]? = some ops[i] := by simp [hi]
  have h0j : ops[j]? = some ops[j] := by simp [hj]
  obtain ⟨u, hu, h1⟩ := yieldsIn_of_qOp h0j h
  obtain ⟨v, hv, h2⟩ := yieldsIn_of_qOp h0i h1
  have a1 := hap _ _ h0i h0j
  obtain ⟨b1, b2, b3⟩ := Oper.apart_spec a1
  have hv' : YieldsIn P ops C ops[i] v a := hv.of_same (execOp_put ops[i] (fun cs b => hsel i _ cs b h0i) a ops[j].dst u b3).symm (wanted_put ops[i] a ops[j].dst u b3).symm
  refine hv'.qOp h0i ?_
  have hu' : YieldsIn P ops C ops[j] u (a.put ops[i].dst v) := hu.of_same (execOp_put ops[j] (fun cs b => hsel j _ cs b h0j) a ops[i].dst v b1) (wanted_put ops[j] a ops[i].dst v b1)
  refine hu'.qOp h0j ?_
  rw [Act.put_comm a v u b2]
  exact h2

theorem q_first {C : World → Prop} {i : Nat} {K : Act → Prop} (hi : i < ops.size) (r2 : List Nat) : ∀ (r1 : List Nat) (a : Act), (∀ j ∈ r1, j < ops.size ∧ Ap ops i j) → QL P ops C K (r1 ++ i :: r2) a → qOp P ops C i (QL P ops C K (r1 ++ r2)) a
  | [], a, _, h => h
  | j :: r1, a, hr, h => by
    have h1 : qOp P ops C j (fun a' => qOp P ops C i (QL P ops C K (r1 ++ r2)) a') a := qOp_mono (fun a' h' => q_first hi r2 r1 a' (fun x hx => hr x (by simp [hx])) h') h
    exact q_swap hsel hi (hr j (by simp)).1 (hr j (by simp)).2 h1

theorem w_swap {i j : Nat} {K : Act → Prop} {a : Act} (hap : Ap ops i j) (h : wOp P ops j (fun a' => wOp P ops i K a') a) : wOp P ops i (fun a' => wOp P ops j K a') a := by
  obtain ⟨oj, u, h0j, hu, oi, v, h0i, hv, h2⟩ := h
  obtain ⟨b1, b2, b3⟩ := Oper.apart_spec (hap _ _ h0i h0j)
  have hv' : Yields P ops oi v a := hv.of_same (execOp_put oi (fun cs b => hsel i _ cs b h0i) a oj.dst u b3).symm (wanted_put oi a oj.dst u b3).symm
  have hu' : Yields P ops oj u (a.put oi.dst v) := hu.of_same (execOp_put oj (fun cs b => hsel j _ cs b h0j) a oi.dst v b1) (wanted_put oj a oi.dst v b1)
  exact ⟨oi, v, h0i, hv', oj, u, h0j, hu', by rw [Act.put_comm a v u b2]; exact h2⟩

theorem w_first {i : Nat} {K : Act → Prop} (r2 : List Nat) : ∀ (r1 : List Nat) (a : Act), (∀ j ∈ r1, Ap ops i j) → WL P ops K (r1 ++ i :: r2) a → wOp P ops i (WL P ops K (r1 ++ r2)) a
  | [], a, _, h => h
  | j :: r1, a, hr, h => by
    have h1 : wOp P ops j (fun a' => wOp P ops i (WL P ops K (r1 ++ r2)) a') a := wOp_mono (fun a' h' => w_first r2 r1 a' (fun x hx => hr x (by simp [hx])) h') h
    exact w_swap hsel (hr j (by simp)) h1

theorem wq_swap {C : World → Prop} {i j : Nat} {K : Act → Prop} {a : Act} (hj : j < ops.size) (hap : Ap ops i j) (h : qOp P ops C j (fun a' => wOp P ops i K a') a) : wOp P ops i (fun a' => qOp P ops C j K a') a := by
  have h0j : ops[j]? = some ops[j] := by simp [hj]
  obtain ⟨u, hu, oi, v, h0i, hv, h2⟩ := yieldsIn_of_qOp h0j h
  obtain ⟨b1, b2, b3⟩ := Oper.apart_spec (hap _ _ h0i h0j)
  have hv' : Yields P ops oi v a := hv.of_same (execOp_put oi (fun cs b => hsel i _ cs b h0i) a ops[j].dst u b3).symm (wanted_put oi a ops[j].dst u b3).symm
  have hu' : YieldsIn P ops C ops[j] u (a.put oi.dst v) := hu.of_same (execOp_put ops[j] (fun cs b => hsel j _ cs b h0j) a oi.dst v b1) (wanted_put ops[j] a oi.dst v b1)
  exact ⟨oi, v, h0i, hv', hu'.qOp h0j (by rw [Act.put_comm a v u b2]; exact h2)⟩

theorem wq_first {C : World → Prop} {i : Nat} {K : Act → Prop} : ∀ (r1 : List Nat) (a : Act), (∀ j ∈ r1, j < ops.size ∧ Ap ops i j) → QL P ops C (fun a' => wOp P ops i K a') r1 a → wOp P ops i (fun a' => QL P ops C K r1 a') a
  | [], a, _, h => h
  | j :: r1, a, hr, h => by
    have h1 : qOp P ops C j (fun a' => wOp P ops i (fun a'' => QL P ops C K r1 a'') a') a := qOp_mono (fun a' h' => wq_first r1 a' (fun x hx => hr x (by simp [hx])) h') h
    exact wq_swap hsel (hr j (by simp)).1 (hr j (by simp)).2 h1

theorem s_first {Q : Exit → Act → World → Prop} (hQ : ∀ c a d v w, Q (.panic c) (a.put d v) w → Q (.panic c) a w) {s : Nat} (hs : s < ops.size) {K : Act → World → Prop} (w : World) :
    ∀ (r1 : List Nat) (a : Act), (∀ j ∈ r1, Ap ops j s) → WL P ops (fun a' => wpOp P ops Q s K a' w) r1 a → wpOp P ops Q s (fun a' w' => WL P ops (fun a'' => K a'' w') r1 a') a w
  | [], a, _, h => h
  | j :: r1, a, hr, h => by
    have h0s : ops[s]? = some ops[s] := by simp [hs]
    obtain ⟨oj, u, h0j, hu, h2⟩ := h
    have h3 := s_first hQ hs (K := K) w r1 _ (fun x hx => hr x (by simp [hx])) h2
    have h4 := wpOp_put h0s (hr j (by simp) _ _ h0j h0s) (fun cs b => hsel j _ cs b h0j) (fun cs b => hsel s _ cs b h0s) (fun c a w h => hQ c a _ _ w h) hu h3
    exact wpOp_mono (fun a' w' h5 => ⟨oj, u, h0j, h5.1, h5.2⟩) h4
end

/-- The check, of a region's text. -/
def rwsB (ops : Array Oper) (ks : List Nat) : Bool :=
  Region.noSelect ops && depsB .any ops && decide (ks.length = ops.size) &&
  ((List.range ops.size).all fun i => (List.range ops.size).all fun j =>
    (i == j || Region.waitsFor .any ops i j || Region.waitsFor .any ops j i || match ops[i]?, ops[j]? with | some oi, some oj => oi.apart ops oj | _, _ => true) &&
    (!(ks.getD i 3 == 2 && ks.getD j 3 == 2 && decide (j < i)) || (List.range ops.size).any fun u => ks.getD u 3 == 2 && decide (j ≤ u) && decide (u < i) && Region.waitsFor .any ops i u) &&
    (!Region.waitsFor .any ops i j || decide (ks.getD j 3 ≤ ks.getD i 3)) && decide (ks.getD i 3 ≤ 2)) &&
  ((List.range ops.size).all fun r => !(ks.getD r 3 == 0) || (List.range ops.size).any fun j => decide (r < j) && Region.waitsFor .any ops j r &&
    (ks.getD j 3 == 0 || (ks.getD j 3 == 2 && (List.range ops.size).all fun t => !(ks.getD t 3 == 2 && decide (t < j)))))

structure RInv (ops : Array Oper) (ks : List Nat) (listed : Array Bool) (rR rW rS : List Nat) : Prop where
  size : listed.size = ops.size
  un : ∀ i, i < ops.size → (listed.getD i true = false ↔ i ∈ rR ∨ i ∈ rW ∨ i ∈ rS)
  lt : ∀ i, i ∈ rR ∨ i ∈ rW ∨ i ∈ rS → i < ops.size
  nR : rR.Pairwise (· < ·)
  nW : rW.Pairwise (· < ·)
  sS : rS.Pairwise (· < ·)
  kR : ∀ i ∈ rR, ks.getD i 3 = 0
  kW : ∀ i ∈ rW, ks.getD i 3 = 1
  kS : ∀ i ∈ rS, ks.getD i 3 = 2
  closed : ∀ j oj, ops[j]? = some oj → listed.getD j false = true → ∀ e ∈ oj.after, Region.binds .any e = true → listed.getD e.on false = true

theorem RInv.set {ops : Array Oper} {ks : List Nat} {listed : Array Bool} {rR rW rS rR' rW' rS' : List Nat} (h : RInv ops ks listed rR rW rS) {i : Nat} (hi : i < ops.size) (hr : i ∈ Region.ready .any ops listed)
    (hm : ∀ j, (j ∈ rR' ∨ j ∈ rW' ∨ j ∈ rS') ↔ (j ≠ i ∧ (j ∈ rR ∨ j ∈ rW ∨ j ∈ rS))) (sR : rR'.Sublist rR) (sW : rW'.Sublist rW) (sS : rS'.Sublist rS) : RInv ops ks (listed.setIfInBounds i true) rR' rW' rS' := by
  refine ⟨by simp [h.size], fun j hj => ?_, fun j hj => h.lt j ((hm j).1 hj).2, h.nR.sublist sR, h.nW.sublist sW, h.sS.sublist sS, fun j hj => h.kR j (sR.mem hj), fun j hj => h.kW j (sW.mem hj), fun j hj => h.kS j (sS.mem hj), fun j oj hj hl e he hb => ?_⟩
  · rw [hm]
    by_cases hji : j = i
    · subst hji
      have : (listed.setIfInBounds j true).getD j true = true := by simp [h.size, hj]
      rw [this]
      simp
    · rw [getD_set_ne true (Ne.symm hji), h.un j hj]
      simp [hji]
  · by_cases hij : i = j
    · subst hij
      obtain ⟨_, oi, hoi, hall⟩ := mem_ready.1 hr
      rw [hoi] at hj
      cases hj
      exact getD_set_true (hall e he hb)
    · rw [getD_set_ne false hij] at hl
      exact getD_set_true (h.closed j oj hj hl e he hb)

theorem rws_main {P : Program} {ops : Array Oper} {ks : List Nat} {Q : Exit → Act → World → Prop} (hB : rwsB ops ks = true) (hQ : ∀ c a d v w, Q (.panic c) (a.put d v) w → Q (.panic c) a w) :
    ∀ (f : Nat) (listed : Array Bool) (rR rW rS : List Nat) (a : Act) (w : World) (D : World → Prop), RInv ops ks listed rR rW rS → rR.length + rW.length + rS.length = f → D w →
      QL P ops D (fun a1 => WL P ops (fun a2 => ∀ w', D w' → SL P ops Q rS a2 w') rW a1) rR a → wpAny P .any ops Q f listed a w := by
  simp only [rwsB, Bool.and_eq_true, decide_eq_true_eq, List.all_eq_true, List.mem_range] at hB
  obtain ⟨⟨⟨⟨hsel0, hdep⟩, hlen⟩, hB⟩, hR⟩ := hB
  have hsel := Region.noSelect_spec hsel0
  intro f
  induction f with
  | zero =>
    intro listed rR rW rS a w D inv hf hD h
    obtain rfl : rR = [] := List.eq_nil_of_length_eq_zero (by omega)
    obtain rfl : rW = [] := List.eq_nil_of_length_eq_zero (by omega)
    obtain rfl : rS = [] := List.eq_nil_of_length_eq_zero (by omega)
    refine ⟨?_, h w hD⟩
    cases hr : Region.ready .any ops listed with
    | nil => rfl
    | cons j js =>
      have hj : j ∈ Region.ready .any ops listed := by rw [hr]; simp
      obtain ⟨h1, o, ho, _⟩ := mem_ready.1 hj
      have := (inv.un j (Array.getElem?_eq_some_iff.1 ho).1).1 h1
      simp at this
  | succ f ih =>
    intro listed rR rW rS a w D inv hf hD h
    have hdirect : ∀ i j, i ∈ Region.ready .any ops listed → Region.waitsFor .any ops i j = true → ¬ (j ∈ rR ∨ j ∈ rW ∨ j ∈ rS) := by
      intro i j hi hw hj
      obtain ⟨h1, o, ho, hall⟩ := mem_ready.1 hi
      obtain ⟨oi, hoi, e, he, hb, hon⟩ := Region.waitsFor_spec hw
      rw [ho] at hoi
      cases hoi
      have h2 := hall e he hb
      rw [hon] at h2
      have h3 := (inv.un j (inv.lt j hj)).2 hj
      rw [getD_both h3] at h2
      cases h2
    refine ⟨fun h0 => ?_, fun i hi => ?_⟩
    · -- the least that is left may come up
      exfalso
      have hex : ∃ i, i ∈ rR ∨ i ∈ rW ∨ i ∈ rS := by
        cases rR with
        | cons x l => exact ⟨x, by simp⟩
        | nil =>
          cases rW with
          | cons x l => exact ⟨x, by simp⟩
          | nil =>
            cases rS with
            | cons x l => exact ⟨x, by simp⟩
            | nil => simp at hf
      have key : ∀ i, ¬ (i ∈ rR ∨ i ∈ rW ∨ i ∈ rS) := by
        intro i
        induction i using Nat.strongRecOn with
        | _ i ihi =>
          intro hi
          have hil := inv.lt i hi
          have : i ∈ Region.ready .any ops listed := by
            refine mem_ready.2 ⟨(inv.un i hil).2 hi, ops[i], by simp [hil], fun e he hb => ?_⟩
            have hlt : e.on < i := depsB_spec hdep (by simp [hil] : ops[i]? = some ops[i]) he hb
            cases hl : listed.getD e.on true with
            | false => exact absurd ((inv.un e.on (by omega)).1 hl) (ihi e.on hlt)
            | true =>
              have : e.on < listed.size := by rw [inv.size]; omega
              simpa [this] using hl
          rw [h0] at this
          cases this
      obtain ⟨i, hi⟩ := hex
      exact key i hi
    · obtain ⟨hiu, oi, hoi, _⟩ := mem_ready.1 hi
      have hil : i < ops.size := (Array.getElem?_eq_some_iff.1 hoi).1
      have hmem := (inv.un i hil).1 hiu
      have hwf : ∀ x y, Region.waitsFor .any ops x y = true → y < x := fun x y h => by
        obtain ⟨ox, hox, e, he, hb, hon⟩ := Region.waitsFor_spec h
        rw [← hon]
        exact depsB_spec hdep hox he hb
      -- apart from what may come first
      have hap : ∀ j, (j ∈ rR ∨ j ∈ rW ∨ j ∈ rS) → j ≠ i → (j < i ∨ ks.getD j 3 < ks.getD i 3) → Ap ops i j ∧ Ap ops j i := by
        intro j hj hji hlt
        have hjl := inv.lt j hj
        have n1 : Region.waitsFor .any ops i j = false := by
          cases hc : Region.waitsFor .any ops i j with
          | false => rfl
          | true => exact absurd hj (hdirect i j hi hc)
        have n2 : Region.waitsFor .any ops j i = false := by
          cases hc : Region.waitsFor .any ops j i with
          | false => rfl
          | true =>
            have h1 := hwf j i hc
            have h2 := (hB j hjl i hil).1.2
            rw [hc] at h2
            simp only [Bool.not_true, Bool.false_or, decide_eq_true_eq] at h2
            omega
        have ap : ∀ x y, x < ops.size → y < ops.size → x ≠ y → Region.waitsFor .any ops x y = false → Region.waitsFor .any ops y x = false → Ap ops x y := by
          intro x y hx hy hxy h1 h2 ox oy hox hoy
          have := (hB x hx y hy).1.1.1
          rw [h1, h2, hox, hoy] at this
          simpa [hxy] using this
        exact ⟨ap i j hil hjl (Ne.symm hji) n1 n2, ap j i hjl hil hji n2 n1⟩
      have hsub : ∀ (l : List Nat) (x : Nat), l.Pairwise (· < ·) → x ∈ l → ∃ l1 l2, l = l1 ++ x :: l2 ∧ (∀ y ∈ l1, y < x) ∧ (∀ y ∈ l2, x < y) := by
        intro l x hp hx
        obtain ⟨l1, l2, rfl⟩ := List.append_of_mem hx
        rw [List.pairwise_append] at hp
        exact ⟨l1, l2, rfl, fun y hy => hp.2.2 y hy x (by simp), fun y hy => (List.pairwise_cons.1 hp.2.1).1 y hy⟩
      have hsl : ∀ (l1 l2 : List Nat) (x : Nat), (l1 ++ l2).Sublist (l1 ++ x :: l2) := fun l1 l2 x => List.Sublist.append (List.Sublist.refl _) (List.sublist_cons_self _ _)
      rcases hmem with hm | hm | hm
      · obtain ⟨l1, l2, rfl, hl1, hl2⟩ := hsub rR i inv.nR hm
        have h1 := q_first hsel hil l2 l1 a (fun j hj => ⟨inv.lt j (.inl (by simp [hj])), (hap j (.inl (by simp [hj])) (by have := hl1 j hj; omega) (.inl (hl1 j hj))).1⟩) h
        refine wpOp_of_qOp hD (fun a' w' hD' h' => ih _ (l1 ++ l2) rW rS a' w' D (inv.set hil hi (fun j => ?_) (hsl _ _ _) (List.Sublist.refl _) (List.Sublist.refl _)) (by simp at hf ⊢; omega) hD' h') h1
        have n1 : i ∉ l1 := fun e => by have := hl1 i e; omega
        have n2 : i ∉ l2 := fun e => by have := hl2 i e; omega
        have n3 : i ∉ rW := fun e => by have := inv.kW i e; have := inv.kR i hm; omega
        have n4 : i ∉ rS := fun e => by have := inv.kS i e; have := inv.kR i hm; omega
        by_cases hji : j = i
        · subst hji; simp [n1, n2, n3, n4]
        · simp [hji]
      · obtain ⟨l1, l2, rfl, hl1, hl2⟩ := hsub rW i inv.nW hm
        have h1 := QL_mono (fun a1 h1 => w_first hsel l2 l1 a1 (fun j hj => (hap j (.inr (.inl (by simp [hj]))) (by have := hl1 j hj; omega) (.inl (hl1 j hj))).1) h1) rR a h
        have h2 := wq_first hsel rR a (fun j hj => ⟨inv.lt j (.inl hj), (hap j (.inl hj) (fun e => by have := inv.kR j hj; have := inv.kW i hm; rw [e] at *; omega) (.inr (by rw [inv.kR j hj, inv.kW i hm]; omega))).1⟩) h1
        obtain ⟨o, v, ho, hy, h3⟩ := h2
        refine hy.wpOp ho (ih _ rR (l1 ++ l2) rS _ w D (inv.set hil hi (fun j => ?_) (List.Sublist.refl _) (hsl _ _ _) (List.Sublist.refl _)) (by simp at hf ⊢; omega) hD h3)
        have n1 : i ∉ l1 := fun e => by have := hl1 i e; omega
        have n2 : i ∉ l2 := fun e => by have := hl2 i e; omega
        have n3 : i ∉ rR := fun e => by have := inv.kR i e; have := inv.kW i hm; omega
        have n4 : i ∉ rS := fun e => by have := inv.kS i e; have := inv.kW i hm; omega
        by_cases hji : j = i
        · subst hji; simp [n1, n2, n3, n4]
        · simp [hji]
      · have hks := inv.kS i hm
        -- what it waits for stands in the list of what was carried out
        have hclo : ∀ x y, (x = i ∨ (x < ops.size ∧ ¬ (x ∈ rR ∨ x ∈ rW ∨ x ∈ rS))) → Region.waitsFor .any ops x y = true → y < ops.size → ¬ (y ∈ rR ∨ y ∈ rW ∨ y ∈ rS) := by
          intro x y hx hw hy
          rcases hx with rfl | ⟨hx, hxn⟩
          · exact hdirect x y hi hw
          · intro hyn
            obtain ⟨ox, hox, e, he, hb, hon⟩ := Region.waitsFor_spec hw
            have hxl : listed.getD x false = true := by
              cases hl : listed.getD x true with
              | false => exact absurd ((inv.un x hx).1 hl) hxn
              | true => have : x < listed.size := by rw [inv.size]; exact hx
                        simpa [this] using hl
            have h2 := inv.closed x ox hox hxl e he hb
            rw [hon, getD_both ((inv.un y hy).2 hyn)] at h2
            cases h2
        have hchain : ∀ x, (x = i ∨ (x < ops.size ∧ ¬ (x ∈ rR ∨ x ∈ rW ∨ x ∈ rS))) → x < ops.size → ks.getD x 3 = 2 → ∀ t, t < ops.size → t < x → ks.getD t 3 = 2 → ¬ (t ∈ rR ∨ t ∈ rW ∨ t ∈ rS) := by
          intro x
          induction x using Nat.strongRecOn with
          | _ x ihx =>
            intro hx hxl hkx t htl htx hkt
            have h1 := (hB x hxl t htl).1.1.2
            rw [hkx, hkt] at h1
            simp only [BEq.rfl, Bool.and_self, Bool.true_and, htx, decide_true, Bool.not_true, Bool.false_or, List.any_eq_true, List.mem_range, Bool.and_eq_true, beq_iff_eq, decide_eq_true_eq] at h1
            obtain ⟨u, hul, ⟨⟨hku, htu⟩, hux⟩, hw⟩ := h1
            have hun := hclo x u hx hw hul
            by_cases htu' : t = u
            · subst htu'; exact hun
            · exact ihx u hux (.inr ⟨hul, hun⟩) hul hku t htl (by omega) hkt
        obtain rfl : rR = [] := by
          have hno : ∀ d r, ops.size - r = d → r ∉ rR := by
            intro d
            induction d using Nat.strongRecOn with
            | _ d ihd =>
              intro r hd hr
              have hrl := inv.lt r (.inl hr)
              have h1 := hR r hrl
              rw [inv.kR r hr] at h1
              simp only [BEq.rfl, Bool.not_true, Bool.false_or, List.any_eq_true, List.mem_range, Bool.and_eq_true, decide_eq_true_eq, Bool.or_eq_true, beq_iff_eq] at h1
              obtain ⟨j, hjl, ⟨hrj, hw⟩, hk⟩ := h1
              have hju : j ≠ i → (j ∈ rR ∨ j ∈ rW ∨ j ∈ rS) := fun hji => Classical.byContradiction fun hjn => hclo j r (.inr ⟨hjl, hjn⟩) hw hrl (.inl hr)
              rcases hk with hk | ⟨hk, hfirst⟩
              · have hji : j ≠ i := fun e => by rw [e, hks] at hk; cases hk
                have hjR : j ∈ rR := by
                  rcases hju hji with h' | h' | h'
                  · exact h'
                  · have := inv.kW j h'; omega
                  · have := inv.kS j h'; omega
                exact ihd (ops.size - j) (by omega) j rfl hjR
              · by_cases hji : j = i
                · subst hji; exact hclo j r (.inl rfl) hw hrl (.inl hr)
                · have hlt : j < i := by
                    rcases Nat.lt_or_ge j i with h' | h'
                    · exact h'
                    · have := List.all_eq_true.1 hfirst i (List.mem_range.2 hil)
                      rw [hks] at this
                      have : i < j := by omega
                      simp_all
                  exact hchain i (.inl rfl) hil hks j hjl hlt hk (hju hji)
          cases rR with
          | nil => rfl
          | cons r l => exact absurd (by simp) (hno _ r rfl)
        obtain ⟨l1, l2, rfl, hl1, hl2⟩ := hsub rS i inv.sS hm
        obtain rfl : l1 = [] := by
          cases l1 with
          | nil => rfl
          | cons t l =>
            exfalso
            have ht : t ∈ (t :: l) ++ i :: l2 := by simp
            exact hchain i (.inl rfl) hil hks t (inv.lt t (.inr (.inr ht))) (hl1 t (by simp)) (inv.kS t ht) (.inr (.inr ht))
        have h1 : WL P ops (fun a2 => wpOp P ops Q i (SL P ops Q l2) a2 w) rW a := WL_mono (fun a2 h2 => h2 w hD) rW a h
        have h2 := s_first hsel hQ hil w rW a (fun j hj => (hap j (.inr (.inl hj)) (fun e => by have := inv.kW j hj; rw [e] at *; omega) (.inr (by rw [inv.kW j hj, hks]; omega))).2) h1
        refine wpOp_mono (fun a' w' h3 => ih _ [] rW l2 a' w' (fun x => x = w') (inv.set hil hi (fun j => ?_) (List.Sublist.refl _) (List.Sublist.refl _) (hsl [] _ _)) (by simp at hf ⊢; omega) rfl (WL_mono (fun a2 h4 => ?_) rW a' h3)) h2
        · have n2 : i ∉ l2 := fun e => by have := hl2 i e; omega
          have n3 : i ∉ rW := fun e => by have := inv.kW i e; omega
          by_cases hji : j = i
          · subst hji; simp [n2, n3]
          · simp [hji]
        · rintro w'' rfl
          exact h4

/-- Operations that yield the same in whatever world, one by one. -/
def wpW (P : Program) (K : Act → Prop) : List Oper → Act → Prop
  | [], a => K a
  | o :: rest, a => ∃ v, (∀ w, (execOp a.eval o).run P w = .ok (.value v) w) ∧ wpW P K rest (a.put o.dst v)
theorem wpW_nil {P : Program} {K : Act → Prop} {a : Act} (h : K a) : wpW P K [] a := h
theorem wpW_step {P : Program} {K : Act → Prop} {a : Act} {o : Oper} {rest : List Oper} (v : Value) (h : ∀ w, (execOp a.eval o).run P w = .ok (.value v) w) (h2 : wpW P K rest (a.put o.dst v)) : wpW P K (o :: rest) a := ⟨v, h, h2⟩

section
variable {P : Program} {ops : Array Oper}
theorem QL_of {C : World → Prop} {K : Act → Prop} (k : Nat) (ks : List Nat) : ∀ (l : List Oper) (b : Nat) (a : Act), ks.length = l.length → (∀ j, j < l.length → l[j]? = ops[b + j]?) → wpQuiet P ops C K (pickL k ks l) a → QL P ops C K (pickI k ks b) a := by
  induction ks with
  | nil => intro l b a hl hj h; cases l with
    | nil => exact h
    | cons o l => simp at hl
  | cons m ms ih =>
    intro l b a hl hj h
    cases l with
    | nil => simp at hl
    | cons o l =>
      have h0 : ops[b]? = some o := by simpa using (hj 0 (by simp)).symm
      have hj' : ∀ j, j < l.length → l[j]? = ops[b + 1 + j]? := fun j hjl => by have := hj (j + 1) (by simp; omega); simpa [Nat.add_assoc, Nat.add_comm 1 j] using this
      simp only [pickL, pickI] at h ⊢
      by_cases hm : m = k
      · rw [if_pos hm] at h ⊢
        have hq : qOp P ops C b (wpQuiet P ops C K (pickL k ms l)) a := by unfold qOp; simp only [h0]; exact h
        exact qOp_mono (fun a' h' => ih l (b + 1) a' (by simpa using hl) hj' h') hq
      · rw [if_neg hm] at h ⊢
        exact ih l (b + 1) a (by simpa using hl) hj' h
theorem WL_of {K : Act → Prop} (k : Nat) (ks : List Nat) : ∀ (l : List Oper) (b : Nat) (a : Act), ks.length = l.length → (∀ j, j < l.length → l[j]? = ops[b + j]?) → (∀ o ∈ pickL k ks l, o.guard = none) → wpW P K (pickL k ks l) a → WL P ops K (pickI k ks b) a := by
  induction ks with
  | nil => intro l b a hl hj hg h; cases l with
    | nil => exact h
    | cons o l => simp at hl
  | cons m ms ih =>
    intro l b a hl hj hg h
    cases l with
    | nil => simp at hl
    | cons o l =>
      have h0 : ops[b]? = some o := by simpa using (hj 0 (by simp)).symm
      have hj' : ∀ j, j < l.length → l[j]? = ops[b + 1 + j]? := fun j hjl => by have := hj (j + 1) (by simp; omega); simpa [Nat.add_assoc, Nat.add_comm 1 j] using this
      simp only [pickL, pickI] at h hg ⊢
      by_cases hm : m = k
      · rw [if_pos hm] at h hg ⊢
        obtain ⟨v, hv, h2⟩ := h
        exact ⟨o, v, h0, .inl ⟨by simp [Region.wanted, hg o (by simp)], hv⟩, ih l (b + 1) _ (by simpa using hl) hj' (fun x hx => hg x (by simp [hx])) h2⟩
      · rw [if_neg hm] at h hg ⊢
        exact ih l (b + 1) a (by simpa using hl) hj' hg h
theorem SL_of {Q : Exit → Act → World → Prop} (k : Nat) (ks : List Nat) : ∀ (l : List Oper) (b : Nat) (a : Act) (w : World), ks.length = l.length → (∀ j, j < l.length → l[j]? = ops[b + j]?) → wpList P ops Q (pickL k ks l) a w → SL P ops Q (pickI k ks b) a w := by
  induction ks with
  | nil => intro l b a w hl hj h; cases l with
    | nil => exact h
    | cons o l => simp at hl
  | cons m ms ih =>
    intro l b a w hl hj h
    cases l with
    | nil => simp at hl
    | cons o l =>
      have h0 : ops[b]? = some o := by simpa using (hj 0 (by simp)).symm
      have hj' : ∀ j, j < l.length → l[j]? = ops[b + 1 + j]? := fun j hjl => by have := hj (j + 1) (by simp; omega); simpa [Nat.add_assoc, Nat.add_comm 1 j] using this
      simp only [pickL, pickI] at h ⊢
      by_cases hm : m = k
      · rw [if_pos hm] at h ⊢
        have hw : wpOp P ops Q b (wpList P ops Q (pickL k ms l)) a w := by unfold wpOp; simp only [h0]; exact h
        exact wpOp_mono (fun a' w' h' => ih l (b + 1) a' w' (by simpa using hl) hj' h') hw
      · rw [if_neg hm] at h ⊢
        exact ih l (b + 1) a w (by simpa using hl) hj' h
end

theorem mem_pickI (k : Nat) : ∀ (ks : List Nat) (b i : Nat), i ∈ pickI k ks b ↔ b ≤ i ∧ i < b + ks.length ∧ ks.getD (i - b) 3 = k
  | [], b, i => by simp [pickI]; omega
  | m :: ms, b, i => by
    have ih := mem_pickI k ms (b + 1) i
    simp only [pickI]
    by_cases hib : i = b
    · subst hib
      have : i ∉ pickI k ms (i + 1) := fun h => by have := (ih.1 h).1; omega
      split
      · rename_i h; simp [h]
      · rename_i h; simp [h, this]
    · have hg : b + 1 ≤ i → (m :: ms).getD (i - b) 3 = ms.getD (i - (b + 1)) 3 := fun h => by
        rw [show i - b = (i - (b + 1)) + 1 by omega]; rfl
      have hmain : i ∈ pickI k ms (b + 1) ↔ b ≤ i ∧ i < b + (m :: ms).length ∧ (m :: ms).getD (i - b) 3 = k := by
        rw [ih]
        constructor
        · rintro ⟨h1, h2, h3⟩; exact ⟨by omega, by simp; omega, by rw [hg h1]; exact h3⟩
        · rintro ⟨h1, h2, h3⟩; exact ⟨by omega, by simp at h2; omega, by rw [← hg (by omega)]; exact h3⟩
      split
      · rw [List.mem_cons, hmain]; simp [hib]
      · exact hmain
theorem sorted_pickI (k : Nat) : ∀ (ks : List Nat) (b : Nat), (pickI k ks b).Pairwise (· < ·)
  | [], b => by simp [pickI]
  | m :: ms, b => by
    simp only [pickI]
    split
    · exact List.pairwise_cons.2 ⟨fun x hx => by have := ((mem_pickI k ms (b + 1) x).1 hx).1; omega, sorted_pickI k ms (b + 1)⟩
    · exact sorted_pickI k ms (b + 1)
theorem len_pickI : ∀ (ks : List Nat) (b : Nat), (∀ i, i < ks.length → ks.getD i 3 ≤ 2) → (pickI 0 ks b).length + (pickI 1 ks b).length + (pickI 2 ks b).length = ks.length
  | [], b, _ => rfl
  | m :: ms, b, h => by
    have ih := len_pickI ms (b + 1) (fun i hi => by have := h (i + 1) (by simp; omega); simpa using this)
    have h0 := h 0 (by simp)
    simp at h0
    simp only [pickI]
    match m, h0 with
    | 0, _ => simp; omega
    | 1, _ => simp; omega
    | 2, _ => simp; omega

theorem wp_region_rws {P : Program} {id : Nat} {Q : Exit → Act → World → Prop} {a : Act} {w : World} {l : List Oper} (ks : List Nat) (hm : P.follows .mixedOrders = true) (hB : rwsB l.toArray ks = true) (hg : (pickL 1 ks l).all (fun o => o.guard.isNone) = true)
    (hQ : ∀ c a d v w, Q (.panic c) (a.put d v) w → Q (.panic c) a w)
    (h : wpQuiet P l.toArray (fun w' => ∃ m, w' = w.drewN m) (fun a1 => wpW P (fun a2 => ∀ w', (∃ m, w' = w.drewN m) → wpList P l.toArray Q (pickL 2 ks l) a2 w') (pickL 1 ks l) a1) (pickL 0 ks l) a) : (Code.region id l.toArray true).wp P Q a w := by
  have hB0 := hB
  simp only [rwsB, Bool.and_eq_true, decide_eq_true_eq, List.all_eq_true, List.mem_range] at hB0
  obtain ⟨⟨⟨⟨hsel0, hdep⟩, hlen⟩, hB1⟩, _⟩ := hB0
  have hlen' : ks.length = l.length := by simpa using hlen
  have hks : ∀ i, i < ks.length → ks.getD i 3 ≤ 2 := fun i hi => (hB1 i (by omega) i (by omega)).2
  have hll : ∀ j, j < l.length → l[j]? = l.toArray[0 + j]? := fun j hj => by simp
  refine wp_region_any hm ?_
  have hmain := rws_main (P := P) (Q := Q) hB hQ l.toArray.size (Array.replicate l.toArray.size false) (pickI 0 ks 0) (pickI 1 ks 0) (pickI 2 ks 0) a { w with drawn := w.drawn + 1 } (fun w' => ∃ m, w' = w.drewN m)
    ⟨by simp, fun i hi => ?_, fun i hi => ?_, sorted_pickI _ _ _, sorted_pickI _ _ _, sorted_pickI _ _ _, fun i hi => ((mem_pickI 0 ks 0 i).1 hi).2.2, fun i hi => ((mem_pickI 1 ks 0 i).1 hi).2.2, fun i hi => ((mem_pickI 2 ks 0 i).1 hi).2.2, fun j oj _ hl => (by rw [getD_replicate_false] at hl; cases hl)⟩
    (by rw [len_pickI ks 0 hks]; simpa using hlen') ⟨1, rfl⟩ ?_
  · exact hmain
  · have h1 : (Array.replicate l.toArray.size false).getD i true = false := by simp at hi ⊢; simp [hi]
    rw [h1]
    simp only [mem_pickI, true_iff]
    have h2 := hks i (by simp at hi; omega)
    have h3 : i < ks.length := by simp at hi; omega
    simp only [Nat.sub_zero, Nat.zero_add, Nat.zero_le, true_and, h3]
    omega
  · simp only [mem_pickI] at hi
    simp
    omega
  · have hg' : ∀ o ∈ pickL 1 ks l, o.guard = none := fun o ho => by
      have := List.all_eq_true.1 hg o ho
      simpa using this
    have h1 := QL_of (ops := l.toArray) 0 ks l 0 a hlen' hll h
    exact QL_mono (fun a1 h1 => WL_mono (fun a2 h2 w' hw' => SL_of 2 ks l 0 a2 w' hlen' hll (h2 w' hw')) _ a1 (WL_of 1 ks l 0 a1 hlen' hll hg' h1)) _ a h1
end Go.Proofs.Ytgddfmfiiodgbaa
