/- A blossom is shut: one side of it (no program in sight). -/
import Derived.Test.YtgddfmfiiodgbaaU11
namespace Go.Proofs.Ytgddfmfiiodgbaa
set_option linter.unusedVariables false
set_option linter.unusedSimpArgs false

def FoS.unite (S : FoS) (v w b : Nat) : FoS := { S with cls := fun u => if S.cls u = S.cls v then S.cls w else S.cls u, base := upd S.base (S.cls w) b }
/-- One base, and its mate, of a blossom's side. -/
def FoS.shr1 (S : FoS) (v w b x m : Nat) (e : Int) : FoS := ((FoS.raise { S with bridge := upd S.bridge m (v, w) } m e 2).unite x m b).unite m (S.pred m) b
def FoS.shrL (M : Nat → Option Nat) (v w b : Nat) (ev : Nat → Int) : List Nat → FoS → FoS
  | [], S => S
  | x :: xs, S => FoS.shrL M v w b ev xs (S.shr1 v w b x ((M x).getD 0) (ev ((M x).getD 0)))

theorem unite_cls (S : FoS) (v w b u : Nat) : (S.unite v w b).cls u = if S.cls u = S.cls v then S.cls w else S.cls u := rfl
theorem unite_bs (S : FoS) (v w b u : Nat) : (S.unite v w b).bs u = if S.cls u = S.cls v ∨ S.cls u = S.cls w then b else S.bs u := by
  unfold FoS.bs FoS.unite upd
  by_cases h : S.cls u = S.cls v
  · simp [h]
  · by_cases h' : S.cls u = S.cls w
    · simp [h']
    · simp [h, h']
theorem unite_same (S : FoS) (v w b : Nat) {u u' : Nat} (h : S.cls u = S.cls u') : (S.unite v w b).cls u = (S.unite v w b).cls u' := by rw [unite_cls, unite_cls, h]
theorem unite_one (S : FoS) (v w b : Nat) : (S.unite v w b).cls v = (S.unite v w b).cls w := by
  rw [unite_cls, unite_cls, if_pos rfl]; split <;> rfl

/-- From a base up to another one, along the chain. -/
inductive ShP (M : Nat → Option Nat) (bs pred : Nat → Nat) : Nat → List Nat → Nat → Prop
  | nil (b : Nat) : ShP M bs pred b [] b
  | cons {x m b : Nat} {xs : List Nat} : M x = some m → ShP M bs pred (bs (pred m)) xs b → ShP M bs pred x (x :: xs) b

/-- The rounds of one side of a blossom. -/
inductive ShRun (M : Nat → Option Nat) (n v w b : Nat) (ev : Nat → Int) : Nat → Nat → FoS → FoS → Prop
  | done (S : FoS) : ShRun M n v w b ev 0 b S S
  | step {k x m y : Nat} {S S' : FoS} : x ≠ b → x < n → M x = some m → m < n → S.outer m = false → S.label m = 2 → S.pred m < n → S.bs (S.pred m) = y → ShRun M n v w b ev k y (S.shr1 v w b x m (ev m)) S' → ShRun M n v w b ev (k + 1) x S S'

section
variable {n : Nat} {M : Nat → Option Nat} {bs0 : Nat → Nat}

theorem shr1_cls (S : FoS) (v w b x m : Nat) (e : Int) {u u' : Nat} (h : S.cls u = S.cls u') : (S.shr1 v w b x m e).cls u = (S.shr1 v w b x m e).cls u' := by
  unfold FoS.shr1
  exact unite_same _ _ _ _ (unite_same _ _ _ _ h)
theorem shr1_xm (S : FoS) (v w b x m : Nat) (e : Int) : (S.shr1 v w b x m e).cls x = (S.shr1 v w b x m e).cls m := by
  unfold FoS.shr1
  exact unite_same _ _ _ _ (unite_one _ _ _ _)
theorem shr1_mp (S : FoS) (v w b x m : Nat) (e : Int) : (S.shr1 v w b x m e).cls m = (S.shr1 v w b x m e).cls (S.pred m) := by
  unfold FoS.shr1
  exact unite_one _ _ _ _
theorem shr1_bs (S : FoS) (v w b x m : Nat) (e : Int) (u : Nat) : (S.shr1 v w b x m e).bs u = if S.cls u = S.cls x ∨ S.cls u = S.cls m ∨ S.cls u = S.cls (S.pred m) then b else S.bs u := by
  unfold FoS.shr1
  rw [unite_bs, unite_bs]
  simp only [unite_cls]
  simp only [FoS.raise]
  by_cases h1 : S.cls u = S.cls x
  · by_cases h4 : S.cls m = S.cls x
    · simp [h1, h4]
    · simp [h1, h4]
  · by_cases h2 : S.cls u = S.cls m
    · simp only [h2, true_or, or_true, if_true]
    · by_cases h3 : S.cls u = S.cls (S.pred m)
      · rw [h3] at h1 h2
        rw [h3]
        simp [h1]
      · simp only [h1, h2, h3, if_false, or_false, false_or]
        have e1 : ¬ (S.cls u = if S.cls m = S.cls x then S.cls m else S.cls m) := by simp [h2]
        rw [if_neg]
        · rfl
        · intro h
          rcases h with h | h
          · exact e1 h
          · split at h
            · exact h2 h
            · exact h3 h

/-- One side of a blossom: what becomes of the bases and the sets. -/
theorem shr_loop (hsy : ∀ {x y z : Nat}, M x = some z → M y = some z → x = y) (b : Nat) (hb : b < n) (hbb : bs0 b = b) (v w : Nat) (ev : Nat → Int) :
    ∀ (xs : List Nat) (x0 : Nat) (S : FoS) (T : Nat → Prop), ShP M bs0 S.pred x0 xs b → xs.Nodup → (∀ x ∈ xs, x < n ∧ bs0 x = x ∧ x ≠ b ∧ ∀ m, M x = some m → m < n ∧ bs0 m = m ∧ m ≠ b ∧ m ∉ xs ∧ S.pred m < n ∧ bs0 (S.pred m) < n ∧ bs0 (bs0 (S.pred m)) = bs0 (S.pred m) ∧ S.outer m = false ∧ S.label m = 2) →
      (∀ u, u < n → (T (bs0 u) → S.bs u = b) ∧ (¬ T (bs0 u) → S.bs u = bs0 u)) →
      (∀ u u', u < n → u' < n → S.bs u = S.bs u' → S.bs u ≠ b → S.cls u = S.cls u') →
      (∀ u, u < n → S.bs u = b → S.cls u = S.cls b ∨ S.cls u = S.cls x0) →
      (∀ u, u < n → bs0 u = b → S.cls u = S.cls b) →
      (∀ z ∈ xs.tail, ¬ T z) →
      (∀ u, u < n → ((T (bs0 u) ∨ bs0 u ∈ xs ∨ ∃ x ∈ xs, M x = some (bs0 u)) → (FoS.shrL M v w b ev xs S).bs u = b) ∧ (¬ (T (bs0 u) ∨ bs0 u ∈ xs ∨ ∃ x ∈ xs, M x = some (bs0 u)) → (FoS.shrL M v w b ev xs S).bs u = bs0 u)) ∧
      (∀ u u', u < n → u' < n → (FoS.shrL M v w b ev xs S).bs u = (FoS.shrL M v w b ev xs S).bs u' → (FoS.shrL M v w b ev xs S).cls u = (FoS.shrL M v w b ev xs S).cls u') ∧
      ShRun M n v w b ev xs.length x0 S (FoS.shrL M v w b ev xs S) := by
  intro xs
  induction xs with
  | nil =>
    intro x0 S T hp _ _ h2 hJ hK _ _
    cases hp
    refine ⟨fun u hu => ⟨fun h => ?_, fun h => ?_⟩, fun u u' hu hu' he => ?_, .done S⟩
    · simp at h; exact (h2 u hu).1 h
    · simp at h; exact (h2 u hu).2 h
    · simp only [FoS.shrL] at he ⊢
      by_cases hub : S.bs u = b
      · have e1 := hK u hu hub
        have e2 := hK u' hu' (he ▸ hub)
        simp only [or_self] at e1 e2
        rw [e1, e2]
      · exact hJ u u' hu hu' he hub
  | cons x xs ih =>
    intro x0 S T hp hnd hx h2 hJ hK hJ0 hT
    cases hp with
    | @cons _ m _ _ hm hp' =>
    obtain ⟨x1, x2, x3, x4⟩ := hx x (by simp)
    obtain ⟨m1, m2, m3, m4, m5, m6, m7, m8, m9⟩ := x4 m hm
    have hnd' := List.nodup_cons.1 hnd
    have hgd : (M x).getD 0 = m := by rw [hm]; rfl
    simp only [FoS.shrL, hgd]
    generalize hp : S.pred m = p at *
    generalize hy : bs0 p = y at *
    have hB := fun u => shr1_bs S v w b x m (ev m) u
    have hC := fun (u u' : Nat) => shr1_cls S v w b x m (ev m) (u := u) (u' := u')
    have hxm := shr1_xm S v w b x m (ev m)
    have hmp := shr1_mp S v w b x m (ev m)
    rw [hp] at hmp
    simp only [hp] at hB
    have hpr : (S.shr1 v w b x m (ev m)).pred = S.pred := rfl
    have hou : ∀ m', m' ≠ m → (S.shr1 v w b x m (ev m)).outer m' = S.outer m' := fun m' h => upd_ne _ _ h
    have hla : (S.shr1 v w b x m (ev m)).label = S.label := by show (if S.label m = 0 then _ else _) = _; rw [if_neg (by omega)]
    have hrun := fun k S' => ShRun.step (n := n) (ev := ev) (k := k) (S := S) (S' := S') (v := v) (w := w) x3 x1 hm m1 m8 m9 (by rw [hp]; exact m5) (y := y) (by
      rw [hp]
      by_cases hyb : y = b
      · by_cases hTy : T y
        · rw [(h2 p m5).1 (by rw [hy]; exact hTy), hyb]
        · rw [(h2 p m5).2 (by rw [hy]; exact hTy), hy]
      · have hny : ¬ T y := by
          cases hp' with
          | nil => exact absurd rfl hyb
          | cons hm' _ => exact hT y (by simp)
        rw [(h2 p m5).2 (by rw [hy]; exact hny), hy])
    have hTy : y ≠ b → ¬ T y := fun hyb => by
      cases hp' with
      | nil => exact absurd rfl hyb
      | cons hm' _ => exact hT y (by simp)
    generalize S.shr1 v w b x m (ev m) = S1 at *
    -- what is touched now
    have t1 : ∀ u, u < n → (T (bs0 u) ∨ bs0 u = x ∨ bs0 u = m ∨ bs0 u = y) → S1.bs u = b := by
      intro u hu h
      rw [hB]
      by_cases hub : S.bs u = b
      · split
        · rfl
        · exact hub
      · rw [if_pos]
        have hnT : ¬ T (bs0 u) := fun h' => hub ((h2 u hu).1 h')
        have hbu := (h2 u hu).2 hnT
        rcases h with h | h | h | h
        · exact absurd h hnT
        · refine .inl (hJ u x hu x1 ?_ hub)
          rw [hbu, h, (h2 x x1).2 (by rw [x2, ← h]; exact hnT), x2]
        · refine .inr (.inl (hJ u m hu m1 ?_ hub))
          rw [hbu, h, (h2 m m1).2 (by rw [m2, ← h]; exact hnT), m2]
        · refine .inr (.inr (hJ u p hu m5 ?_ hub))
          rw [hbu, h, (h2 p m5).2 (by rw [hy, ← h]; exact hnT), hy]
    have t2 : ∀ u, u < n → ¬ (T (bs0 u) ∨ bs0 u = x ∨ bs0 u = m ∨ bs0 u = y) → S1.bs u = bs0 u := by
      intro u hu h
      have hbu := (h2 u hu).2 (fun h' => h (.inl h'))
      rw [hB]
      split
      · rename_i hc
        have key : ∀ z, z < n → bs0 z = x ∨ bs0 z = m ∨ bs0 z = y → S.cls u = S.cls z → b = bs0 u := by
          intro z hz hz' hcz
          have e : S.bs u = S.bs z := by unfold FoS.bs; rw [hcz]
          by_cases hTz : T (bs0 z)
          · rw [← hbu, e, (h2 z hz).1 hTz]
          · rw [(h2 z hz).2 hTz, hbu] at e
            exact absurd (.inr (by rw [e]; exact hz')) h
        rcases hc with hc | hc | hc
        · exact key x x1 (.inl x2) hc
        · exact key m m1 (.inr (.inl m2)) hc
        · exact key p m5 (.inr (.inr hy)) hc
      · exact hbu
    have hJ' : ∀ u u', u < n → u' < n → S1.bs u = S1.bs u' → S1.bs u ≠ b → S1.cls u = S1.cls u' := by
      intro u u' hu hu' he hne
      have e1 := hB u
      have e2 := hB u'
      by_cases c1 : S.cls u = S.cls x ∨ S.cls u = S.cls m ∨ S.cls u = S.cls p
      · rw [if_pos c1] at e1; exact absurd e1 hne
      · by_cases c2 : S.cls u' = S.cls x ∨ S.cls u' = S.cls m ∨ S.cls u' = S.cls p
        · rw [if_pos c2] at e2; exact absurd (he.trans e2) hne
        · rw [if_neg c1] at e1
          rw [if_neg c2] at e2
          exact hC _ _ (hJ u u' hu hu' (by rw [← e1, ← e2]; exact he) (by rw [← e1]; exact hne))
    have hpy : S1.cls p = S1.cls b ∨ S1.cls p = S1.cls y := by
      by_cases hyb : y = b
      · exact .inl (hC _ _ (hJ0 p m5 (by rw [hy, hyb])))
      · have hny := hTy hyb
        refine .inr (hC _ _ (hJ p y m5 m6 ?_ ?_))
        · rw [(h2 p m5).2 (by rw [hy]; exact hny), (h2 y m6).2 (by rw [m7]; exact hny), hy, m7]
        · rw [(h2 p m5).2 (by rw [hy]; exact hny), hy]; exact hyb
    have hK' : ∀ u, u < n → S1.bs u = b → S1.cls u = S1.cls b ∨ S1.cls u = S1.cls y := by
      intro u hu he
      have e1 := hB u
      by_cases c1 : S.cls u = S.cls x ∨ S.cls u = S.cls m ∨ S.cls u = S.cls p
      · have : S1.cls u = S1.cls p := by
          rcases c1 with c | c | c
          · rw [hC _ _ c, hxm, hmp]
          · rw [hC _ _ c, hmp]
          · exact hC _ _ c
        rw [this]
        exact hpy
      · rw [if_neg c1] at e1
        rcases hK u hu (by rw [← e1]; exact he) with h | h
        · exact .inl (hC _ _ h)
        · exact absurd (.inl h) c1
    have hih := ih y S1 (fun z => T z ∨ z = x ∨ z = m ∨ z = y) (by rw [hpr]; exact hp') hnd'.2 (fun z hz => by
        obtain ⟨z1, z2, z3, z4⟩ := hx z (by simp [hz])
        refine ⟨z1, z2, z3, fun m' hm' => ?_⟩
        obtain ⟨g1, g2, g3, g4, g5, g6, g7, g8, g9⟩ := z4 m' hm'
        rw [hpr, hla, hou m' (fun e => hnd'.1 (by rw [e] at hm'; rw [hsy hm hm']; exact hz))]
        exact ⟨g1, g2, g3, fun h => g4 (by simp [h]), g5, g6, g7, g8, g9⟩)
      (fun u hu => ⟨t1 u hu, t2 u hu⟩) hJ' hK' (fun u hu he => hC _ _ (hJ0 u hu he)) (fun z hz h => by
        have hzt : z ∈ xs := List.mem_of_mem_tail hz
        rcases h with h | h | h | h
        · exact hT z (by simpa using hzt) h
        · rw [h] at hzt; exact hnd'.1 hzt
        · rw [h] at hzt; exact m4 (by simp [hzt])
        · cases hp' with
          | nil => simp at hzt
          | cons hm' _ =>
            simp only [List.tail_cons] at hz
            rw [h] at hz
            exact (List.nodup_cons.1 hnd'.2).1 hz)
    obtain ⟨r1, r2, r3⟩ := hih
    refine ⟨fun u hu => ⟨fun h => ?_, fun h => ?_⟩, r2, hrun _ _ r3⟩
    · by_cases hq : (T (bs0 u) ∨ bs0 u = x ∨ bs0 u = m ∨ bs0 u = y) ∨ bs0 u ∈ xs ∨ ∃ x ∈ xs, M x = some (bs0 u)
      · exact (r1 u hu).1 hq
      · exfalso
        apply hq
        rcases h with h | h | ⟨z, hz, hz'⟩
        · exact .inl (.inl h)
        · rcases List.mem_cons.1 h with h | h
          · exact .inl (.inr (.inl h))
          · exact .inr (.inl h)
        · rcases List.mem_cons.1 hz with rfl | hz
          · rw [hm] at hz'; cases hz'; exact .inl (.inr (.inr (.inl rfl)))
          · exact .inr (.inr ⟨z, hz, hz'⟩)
    · by_cases hq : (T (bs0 u) ∨ bs0 u = x ∨ bs0 u = m ∨ bs0 u = y) ∨ bs0 u ∈ xs ∨ ∃ x ∈ xs, M x = some (bs0 u)
      · rw [(r1 u hu).1 hq]
        rcases hq with (hq | hq | hq | hq) | hq | ⟨z, hz, hz'⟩
        · exact absurd (.inl hq) h
        · exact absurd (.inr (.inl (by rw [hq]; simp))) h
        · exact absurd (.inr (.inr ⟨x, by simp, by rw [hm, hq]⟩)) h
        · cases hp' with
          | nil => exact hq.symm
          | cons hm' _ => exact absurd (.inr (.inl (by rw [hq]; simp))) h
        · exact absurd (.inr (.inl (by simp [hq]))) h
        · exact absurd (.inr (.inr ⟨z, by simp [hz], hz'⟩)) h
      · exact (r1 u hu).2 hq
end
end Go.Proofs.Ytgddfmfiiodgbaa
