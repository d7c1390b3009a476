/- Graphs that lack one vertex, whichever (no program in sight). -/
import Derived.Test.YtgddfmfiiodgbaaU33
import Derived.Test.YtgddfmfiiodgbaaU01
import Derived.Below
import Derived.Test.YtgddfmfiiodgbaaU28
import Derived.Test.YtgddfmfiiodgbaaU27
import Derived.Test.YtgddfmfiiodgbaaU25
namespace Go.Proofs.Ytgddfmfiiodgbaa
set_option linter.unusedVariables false
set_option linter.unusedSimpArgs false

/-- All but one, whichever, can be matched. -/
def Lacks (n : Nat) (E : Nat → Nat → Prop) (v : Nat) : Prop := ∃ M, IsMat n E M ∧ M v = none ∧ ∀ u, u < n → u ≠ v → M u ≠ none
def CritG (n : Nat) (E : Nat → Nat → Prop) : Prop := 0 < n ∧ ∀ v, v < n → Lacks n E v

section
variable {n : Nat} {E E' : Nat → Nat → Prop} {M : Nat → Option Nat} {L : Nat → Nat}

theorem lacks_iff {v : Nat} (hv : v < n) : Lacks n E v ↔ ∃ M, IsMat n E M ∧ freeL n M = [v] := by
  constructor
  · rintro ⟨M, h1, h2, h3⟩
    refine ⟨M, h1, ?_⟩
    have hmem : ∀ x, x ∈ freeL n M ↔ x = v := fun x => by
      rw [mem_freeL]
      constructor
      · rintro ⟨a, b⟩
        exact Classical.byContradiction fun hne => h3 x a hne b
      · rintro rfl; exact ⟨hv, h2⟩
    have hnd := nodup_freeL n M
    match hl : freeL n M with
    | [] => have := (hmem v).2 rfl; rw [hl] at this; simp at this
    | [x] => have := (hmem x).1 (by rw [hl]; simp); rw [this]
    | x :: y :: l =>
      have h4 := (hmem x).1 (by rw [hl]; simp)
      have h5 := (hmem y).1 (by rw [hl]; simp)
      rw [hl, h4, h5] at hnd
      simp at hnd
  · rintro ⟨M, h1, h2⟩
    have hmem : ∀ x, x ∈ freeL n M ↔ x = v := fun x => by rw [h2]; simp
    exact ⟨M, h1, (mem_freeL.1 ((hmem v).2 rfl)).2, fun u hu hne h => hne ((hmem u).1 (mem_freeL.2 ⟨hu, h⟩))⟩

theorem crit_of (hg : IsGr n E) (hM : IsMat n E M) (hno : ∀ p, ¬ AugW E M p) (hL : LabP n E M L) : ((freeL n M).length = 1 ∧ ∀ v, v < n → L v = 1) ↔ CritG n E := by
  constructor
  · rintro ⟨h1, h2⟩
    refine ⟨?_, fun v hv => ?_⟩
    · obtain ⟨x, l, hx⟩ := List.exists_cons_of_length_pos (show 0 < (freeL n M).length by omega)
      have := (mem_freeL.1 (show x ∈ freeL n M by rw [hx]; simp)).1
      omega
    · obtain ⟨M', a, b, c⟩ := (hL.even v hv).1 (h2 v hv)
      refine (lacks_iff hv).2 ⟨M', a, ?_⟩
      have hm : v ∈ freeL n M' := mem_freeL.2 ⟨hv, c⟩
      match hl : freeL n M' with
      | [] => rw [hl] at hm; simp at hm
      | [x] => rw [hl] at hm; simp at hm; rw [hm]
      | x :: y :: l => rw [hl, h1] at b; simp at b
  · rintro ⟨h0, h1⟩
    obtain ⟨M0, a0, b0⟩ := (lacks_iff h0).1 (h1 0 h0)
    have s0 := size_free hg a0
    have s1 := size_free hg hM
    have s2 := berge hg hM a0 hno
    rw [b0] at s0 s2
    simp at s0 s2
    refine ⟨by omega, fun v hv => ?_⟩
    obtain ⟨M', a, b⟩ := (lacks_iff hv).1 (h1 v hv)
    refine (hL.even v hv).2 ⟨M', a, ?_, ?_⟩
    · rw [b]; simp; omega
    · exact (mem_freeL.1 (show v ∈ freeL n M' by rw [b]; simp)).2

/-- An odd number of vertices. -/
theorem CritG.odd (hg : IsGr n E) (h : CritG n E) : n % 2 = 1 := by
  obtain ⟨M0, a0, b0⟩ := (lacks_iff h.1).1 (h.2 0 h.1)
  have s0 := size_free hg a0
  rw [b0] at s0
  simp at s0
  omega
theorem CritG.more (h : CritG n E) (hs : ∀ u v, E u v → E' u v) : CritG n E' :=
  ⟨h.1, fun v hv => by
    obtain ⟨M, a, b, c⟩ := h.2 v hv
    exact ⟨M, ⟨a.symm, fun k => hs _ _ (a.edge k), a.lt⟩, b, c⟩⟩

/-- What a matching has among the last ones. -/
theorem tail_mat {m : Nat} (hM : IsMat (n + m) E M) (hside : ∀ u v, E u v → (u < n ↔ v < n)) : IsMat m (fun u v => E (u + n) (v + n)) (fun v => (M (v + n)).map fun x => x - n) := by
  have hval : ∀ v w, (M (v + n)).map (fun x => x - n) = some w → M (v + n) = some (w + n) := by
    intro v w h
    cases hm : M (v + n) with
    | none => rw [hm] at h; cases h
    | some x =>
      rw [hm] at h
      simp at h
      have := hside _ _ (hM.edge hm)
      have h2 : ¬ x < n := fun e => by have := this.2 e; omega
      congr 1; omega
  exact ⟨fun {v w} h => by rw [hM.symm (hval v w h)]; simp, fun {v w} h => hM.edge (hval v w h), fun {v w} h => by have := hM.lt (hval v w h); omega⟩
theorem head_mat {m : Nat} (hg : IsGr (n + m) E) (hM : IsMat (n + m) E M) (hside : ∀ u v, E u v → (u < n ↔ v < n)) : IsMat n E (fun v => if v < n then M v else none) := by
  have hval : ∀ v w, (if v < n then M v else none) = some w → v < n ∧ w < n ∧ M v = some w := by
    intro v w h
    by_cases hv : v < n
    · rw [if_pos hv] at h; exact ⟨hv, (hside _ _ (hM.edge h)).1 hv, h⟩
    · rw [if_neg hv] at h; cases h
  exact ⟨fun {v w} h => by obtain ⟨a, b, c⟩ := hval v w h; rw [if_pos b]; exact hM.symm c, fun {v w} h => hM.edge (hval v w h).2.2, fun {v w} h => (hval v w h).1⟩
theorem tail_gr {m : Nat} (hg : IsGr (n + m) E) : IsGr m (fun u v => E (u + n) (v + n)) := ⟨fun h => hg.symm h, fun h => by have := hg.lt h; omega, fun v h => hg.irr _ h⟩

/-- Side by side. -/
theorem beside_not {m : Nat} (hg : IsGr (n + m) E) (hn : 0 < n) (hm : 0 < m) (hside : ∀ u v, E u v → (u < n ↔ v < n)) : ¬ CritG (n + m) E := by
  rintro ⟨_, h⟩
  -- one of the second ones left alone, and one of the first ones
  obtain ⟨M1, a1, b1, c1⟩ := h 0 (by omega)
  obtain ⟨M2, a2, b2, c2⟩ := h n (by omega)
  have t1 := size_free (tail_gr hg) (tail_mat a1 hside)
  have t2 := size_free (tail_gr hg) (tail_mat a2 hside)
  have e1 : freeL m (fun v => (M1 (v + n)).map fun x => x - n) = [] := by
    rw [List.eq_nil_iff_forall_not_mem]
    intro v hv
    obtain ⟨h1, h2⟩ := mem_freeL.1 hv
    have := c1 (v + n) (by omega) (by omega)
    cases hx : M1 (v + n) with
    | none => exact this hx
    | some x => rw [hx] at h2; cases h2
  have e2 : Lacks m (fun u v => E (u + n) (v + n)) 0 := by
    refine ⟨_, tail_mat a2 hside, by simp [b2], fun u hu hne hf => ?_⟩
    have := c2 (u + n) (by omega) (by omega)
    cases hx : M2 (u + n) with
    | none => exact this hx
    | some x => rw [hx] at hf; cases hf
  obtain ⟨M3, a3, b3⟩ := (lacks_iff hm).1 e2
  have t3 := size_free (tail_gr hg) a3
  rw [e1] at t1
  rw [b3] at t3
  simp at t1 t3
  omega
end
end Go.Proofs.Ytgddfmfiiodgbaa

/- A region that draws its order, whose operations read alone and whose callees each answer one value and leave what is old: one walk serves every order. -/
namespace Go.Proofs.Ytgddfmfiiodgbaa
open Go Go.RowKit
set_option maxRecDepth 100000
set_option linter.unusedVariables false
set_option linter.unusedSimpArgs false

/-- The worlds that come behind one, what is old unchanged. -/
def WB (w0 : World) : Type := { W : World // Below w0.heap.size w0 W }
def WB.w {w0 : World} (x : WB w0) : World := x.1
instance {w0 : World} : Nonempty (WB w0) := ⟨⟨w0, Below.refl _ _⟩⟩
theorem WB.b {w0 : World} (x : WB w0) : Below w0.heap.size w0 x.w := x.2

theorem wp_region_below {P : Program} {id : Nat} {Q : Exit → Act → World → Prop} {a : Act} {w : World} {l : List Oper} (w0 : World) (hm : P.follows .mixedOrders = true) (hB : Region.lexB .any l.toArray = true) (hw : Below w0.heap.size w0 w)
    (h : wpQuiet P l.toArray (fun w' => ∃ x : WB w0, w' = x.w) (fun a' => ∀ w', (∃ x : WB w0, w' = x.w) → Q .normal a' w') l a) : (Code.region id l.toArray true).wp P Q a w :=
  wp_region_quiet hm hB ⟨⟨_, hw.drew⟩, rfl⟩ h

theorem Calls.wb_of {P : Program} {f : FuncId} {args : Array Value} {v : Value} {w0 : World} {x : WB w0} (h : ∀ W, Below w0.heap.size w0 W → Calls P f args W fun e w' => e = .returned v ∧ Below W.heap.size W w') :
    Calls P f args x.w fun e w'' => e = .returned v ∧ ∃ y : WB w0, w'' = y.w :=
  (h x.w x.b).mono fun _ _ ⟨he, hb⟩ => ⟨he, ⟨_, x.b.trans (hb.mono x.b.size)⟩, rfl⟩
theorem Calls.wb_same {P : Program} {f : FuncId} {args : Array Value} {v : Value} {w0 : World} {x : WB w0} (h : ∀ W, Below w0.heap.size w0 W → Calls P f args W fun e w' => e = .returned v ∧ W = w') :
    Calls P f args x.w fun e w'' => e = .returned v ∧ ∃ y : WB w0, w'' = y.w :=
  (h x.w x.b).mono fun _ _ ⟨he, hb⟩ => ⟨he, x, hb.symm⟩
end Go.Proofs.Ytgddfmfiiodgbaa

/- Critical graphs: the vertices without mates, labels behind a largest matching, critical.Is. -/
namespace Go.Proofs.Ytgddfmfiiodgbaa
open Go Go.RowKit
set_option maxRecDepth 100000
set_option linter.unusedVariables false
set_option linter.unusedSimpArgs false

theorem lfree_any {n : Nat} {M : Nat → Option Nat} {v : Nat} (hv : v < n) (mA : Option Addr) (mc : Nat) (w : World) (hrm : Reads w mA (icells (mateL n M))) :
    Calls Try.prog 153 #[.slice mA n mc, .int .i64 (v : Int)] w fun e w' => e = .returned (.bool (decide (M v = none))) ∧ w = w' := by
  obtain ⟨mb, mo, hmA, _, cx⟩ := hrm.int v _ (mateL_get M hv)
  subst hmA
  have i1 : (0 : Int) ≤ (v : Int) := by omega
  have i2 : (v : Int) < (n : Int) := by omega
  clear hrm
  cases hM : M v with
  | none =>
    rw [hM] at cx
    simp only [encO] at cx
    clear hM
    go_enter Try.func153, Try.ntmps153
    go_wp2_with fail
    go_ret
    exact ⟨rfl, rfl⟩
  | some u =>
    rw [hM] at cx
    simp only [encO] at cx
    have j1 : ((u : Int) == -1) = false := by rw [beq_eq_false_iff_ne]; omega
    clear hM
    go_enter Try.func153, Try.ntmps153
    go_wp2_with fail
    go_ret
    exact ⟨by simp, rfl⟩

set_option maxHeartbeats 2000000 in
theorem such_free {n : Nat} {M : Nat → Option Nat} (mA : Option Addr) (mc : Nat) (w : World) (hrm : Reads w mA (icells (mateL n M))) (hn : n ≤ 1000000) :
    Calls Try.prog 152 #[.slice mA n mc, .func (.func 153) #[] #[]] w fun e w' => ∃ v, e = .returned v ∧ OwnI w w' v (natI (freeL n M)) := by
  have HRM := Lib.hid hrm
  clear hrm
  go_enter Try.func152, Try.ntmps152
  go_wp2_with fail
  go_loopw [5, 9] (fun r i wr => ∃ (v : Nat), i = .int .i64 v ∧ v ≤ n ∧ Hid (OwnI w wr r (natI (freeL v M)))) (fun _ i _ => n - (intOf i).toNat)
  case atStart => exact ⟨0, rfl, Nat.zero_le _, OwnI.nil w⟩
  case round =>
    obtain ⟨v, rfl, hv, ho⟩ := hrel
    by_cases hlt : v < n
    · have HF := lfree_any (M := M) hlt mA mc wr (HRM.out.below ho.out.2)
      have i1 : (v : Int) < (n : Int) := by omega
      obtain ⟨A0, c0, rfl, hc0, hr0⟩ := ho.out.slice
      have hal : (natI (freeL v M)).length ≤ 10000000 := by rw [natI_length]; have := freeL_le v M; omega
      have HAL := Lib.hid hal
      have hs := freeL_succ v M
      have HS := Lib.hid hs
      clear hr0 hal hs
      by_cases hM : M v = none
      · have hs := Lib.hid (show natI (freeL (v + 1) M) = natI (freeL v M) ++ [(v : Int)] by rw [HS.out, if_pos hM]; simp [natI])
        rw [decide_eq_true hM] at HF
        clear hM
        go_wp2_with (first
          | (go_at_call 153; refine HF.mono ?_; rintro e w1 ⟨rfl, rfl⟩)
          | (at_builtin; go_loud ((refine wpList_snocI EI_int rfl (.tmp 16) (.tmp 18) rfl ho.out rfl (v : Int) wr.heap.size rfl rfl HAL.out ?_); intro A2 c2 w2 ho2 _ _)))
        refine ⟨⟨v + 1, by go_num, by omega, ?_⟩, by simp [intOf]; omega⟩
        rw [hs.out]
        simpa using Lib.hid ho2
      · have hs := Lib.hid (show natI (freeL (v + 1) M) = natI (freeL v M) by rw [HS.out, if_neg hM])
        rw [decide_eq_false hM] at HF
        clear hM
        go_wp2_with (go_at_call 153; refine HF.mono ?_; rintro e w1 ⟨rfl, rfl⟩)
        exact ⟨⟨v + 1, by go_num, by omega, by rw [hs.out]; exact ho⟩, by simp [intOf]; omega⟩
    · obtain rfl : v = n := by omega
      have i1 : ¬ (v : Int) < (v : Int) := by omega
      go_wp2_with fail
      go_ret
      exact ⟨_, rfl, ho.out⟩
theorem mates_free {n : Nat} {M : Nat → Option Nat} (mA : Option Addr) (mc : Nat) (w : World) (hrm : Reads w mA (icells (mateL n M))) (hn : n ≤ 1000000) :
    Calls Try.prog 108 #[.slice mA n mc] w fun e w' => ∃ v, e = .returned v ∧ OwnI w w' v (natI (freeL n M)) := by
  have HS := such_free mA mc w hrm hn
  clear hrm
  go_enter Try.func108, Try.ntmps108
  go_wp2_with (go_at_call 152; refine HS.mono ?_; rintro e w1 ⟨v, rfl, ho⟩)
  go_ret
  exact ⟨v, rfl, ho⟩

/-- The place of the first label that is not 1. -/
def idxO (l : List Int) : Int := match l.findIdx? (fun x => x != 1) with | some i => i | none => -1
theorem idxO_no (l : List Int) (h : ∀ (j : Nat) x, l[j]? = some x → x = 1) : idxO l = -1 := by
  unfold idxO
  rw [List.findIdx?_eq_none_iff.2 (fun x hx => by
    obtain ⟨j, hj, rfl⟩ := List.getElem_of_mem hx
    have := h j _ (by simp [hj] : l[j]? = some l[j])
    simp [this])]
theorem idxO_yes (l : List Int) (k : Nat) (x : Int) (hk : l[k]? = some x) (hp : x ≠ 1) (h : ∀ (j : Nat) x, j < k → l[j]? = some x → x = 1) : idxO l = k := by
  unfold idxO
  obtain ⟨hkl, hke⟩ := List.getElem?_eq_some_iff.1 hk
  have : l.findIdx? (fun x => x != 1) = some k := by
    rw [List.findIdx?_eq_some_iff_getElem]
    refine ⟨hkl, by rw [hke]; simpa using hp, fun j hj => ?_⟩
    have := h j (l[j]'(by omega)) hj (by simp)
    simp [this]
  rw [this]
theorem idxO_nat (n : Nat) (L : Nat → Nat) : (0 ≤ idxO (natL n L)) ↔ ¬ ∀ v, v < n → L v = 1 := by
  unfold idxO
  cases h : (natL n L).findIdx? (fun x => x != 1) with
  | none =>
    have h1 := List.findIdx?_eq_none_iff.1 h
    refine ⟨fun h2 => by simp at h2, fun h2 => absurd (fun v hv => ?_) h2⟩
    have := h1 _ (List.mem_of_getElem? (natL_get (f := L) hv))
    simp at this
    omega
  | some i =>
    obtain ⟨hi, h1, _⟩ := List.findIdx?_eq_some_iff_getElem.1 h
    refine ⟨fun _ h2 => ?_, fun _ => by simp⟩
    have hin : i < n := by simpa [natL] using hi
    have := natL_get (f := L) hin
    rw [List.getElem?_eq_getElem hi] at this
    simp at this
    rw [this, h2 i hin] at h1
    simp at h1

theorem other_any (lv : Value) (x : Int) (w : World) : Calls Try.prog 112 #[lv, .int .i64 x] w fun e w' => e = .returned (.bool (x != 1)) ∧ w = w' := by
  go_enter Try.func112, Try.ntmps112
  go_wp2_with fail
  go_ret
  exact ⟨rfl, rfl⟩
theorem idxo_any (l : List Int) (lv : Value) (A : Option Addr) (c m : Nat) (w : World) (hr : Reads w A (icells l)) (hl : l.length = m) (hm : m ≤ 4611686018427387903) :
    Calls Try.prog 135 #[.slice A m c, .func (Fn.func 112) #[lv] #[]] w fun e w' => e = .returned (.int .i64 (idxO l)) ∧ w = w' := by
  subst hl
  go_enter Try.func135, Try.ntmps135
  go_wp2_with fail
  go_loop [8] (fun i => ∃ k : Nat, k ≤ l.length ∧ i = .int .i64 k ∧ Hid (∀ (j : Nat) x, j < k → l[j]? = some x → x = 1)) (fun i => l.length - (intOf i).toNat)
  case atStart => exact ⟨0, Nat.zero_le _, rfl, fun j x hj => by omega⟩
  case round =>
    obtain ⟨k, hk, rfl, hok⟩ := hrel
    by_cases hlt : k < l.length
    · obtain ⟨x, hx⟩ : ∃ x, l[k]? = some x := ⟨l[k], by simp [hlt]⟩
      obtain ⟨b, o, rfl, hbl, e1⟩ := hr.int k x hx
      have HX := Lib.hid hx
      clear hx
      have HB := fun W => other_any lv x W
      by_cases h1 : x = 1
      · rw [show (x != 1) = false by simp [h1]] at HB
        have H1 := Lib.hid h1
        clear h1
        go_wp2_with (go_at_call 112; refine (HB _).mono ?_; rintro e w1 ⟨rfl, rfl⟩)
        go_round
        case rel => exact ⟨k + 1, by omega, by go_num, fun j y hj hy => by
                            by_cases e : j = k
                            · subst e; rw [HX.out] at hy; injection hy with hy; subst hy; exact H1.out
                            · exact hok.out j y (by omega) hy⟩
        case measure => simp [intOf]; omega
      · rw [show (x != 1) = true by simp [h1]] at HB
        have H1 := Lib.hid h1
        clear h1
        go_wp2_with (go_at_call 112; refine (HB _).mono ?_; rintro e w1 ⟨rfl, rfl⟩)
        go_ret
        exact ⟨by rw [idxO_yes l k x HX.out H1.out hok.out]; rfl, rfl⟩
    · go_wp2_with fail
      go_ret
      exact ⟨by rw [idxO_no l (fun j x hx => hok.out j x (by have := (List.getElem?_eq_some_iff.1 hx).1; omega) hx)]; rfl, rfl⟩
theorem conto_any (l : List Int) (lv : Value) (A : Option Addr) (c m : Nat) (w : World) (hr : Reads w A (icells l)) (hl : l.length = m) (hm : m ≤ 4611686018427387903) :
    Calls Try.prog 111 #[.slice A m c, .func (Fn.func 112) #[lv] #[]] w fun e w' => e = .returned (.bool (decide (0 ≤ idxO l))) ∧ w = w' := by
  have HI := idxo_any l lv A c m w hr hl hm
  generalize idxO l = r at HI ⊢
  go_enter Try.func111, Try.ntmps111
  go_wp2_with (go_at_call 135; refine HI.mono ?_; rintro e w1 ⟨rfl, rfl⟩)
  go_ret
  exact ⟨rfl, rfl⟩
end Go.Proofs.Ytgddfmfiiodgbaa

/- barrier.Labels, critical.Is. -/
namespace Go.Proofs.Ytgddfmfiiodgbaa
open Go Go.RowKit
set_option maxRecDepth 100000
set_option linter.unusedVariables false
set_option linter.unusedSimpArgs false

def BLabPost (n : Nat) (es : List (Int × Int)) (w : World) (e : Ending) (w' : World) : Prop :=
  ∃ (M : Nat → Option Nat) (L : Nat → Nat) (B : Nat) (mA : Option Addr), e = .returned (.tuple #[.slice (some ⟨B, 0, none⟩) n n, .slice mA n n, .int .i64 0]) ∧ IsMat n (adjE es) M ∧ (∀ p, ¬ AugW (adjE es) M p) ∧ LabP n (adjE es) M L ∧
    RowI w' 3 B (natL n L) ∧ Reads w' mA (icells (mateL n M)) ∧ Below w.heap.size w w'

set_option maxHeartbeats 1000000 in
theorem blab_no (n : Int) (es : List (Int × Int)) (A : Option Addr) (c : Nat) (w : World) (hr : Reads w A (pcells es)) (hc : es.length ≤ c) (hm : es.length ≤ 4611686018427387903) (hR : rightB n es = false) :
    Calls Try.prog 110 #[.agg #[.int .i64 n, .slice A es.length c]] w fun e w' => e = .returned (.tuple #[.slice none 0 0, .slice none 0 0, .int .i64 3]) ∧ Below w.heap.size w w' := by
  have HLA := fun (W : World) (h : Reads W A (pcells es)) => largest_no n es A c W h hc hm hR
  have HR := Lib.hid hr
  clear hr hR
  go_enter Try.func110, Try.ntmps110
  go_upto_region 1 with fail
  (have hX1 := Box2.new (Below.refl w.heap.size w) (Value.int IntKind.i64 n) (Value.slice A es.length c) 25
   generalize w.alloc (Obj.cells #[Value.int IntKind.i64 n, Value.slice A es.length c] 25) = w1 at hX1 ⊢
   have c0 := hX1.c0
   have c1 := hX1.c1)
  go_wp2_with (go_at_call 32; (refine (HLA w1 (HR.out.below hX1.below)).mono ?_; rintro e w2 ⟨rfl, hb2⟩))
  go_ret3
  exact ⟨rfl, (hX1.below.trans (hb2.mono hX1.below.size)).alloc (Nat.le_trans hX1.below.size hb2.size) _⟩

set_option maxHeartbeats 1000000 in
theorem blab_yes (n : Nat) (es : List (Int × Int)) (A : Option Addr) (c : Nat) (w : World) (hr : Reads w A (pcells es)) (hc : es.length ≤ c) (hP : RightP n es) :
    Calls Try.prog 110 #[.agg #[.int .i64 (n : Int), .slice A es.length c]] w (BLabPost n es w) := by
  have hR := (right_iff _ _).2 hP
  have HLA := fun (W : World) (h : Reads W A (pcells es)) => largest_yes n es A c W h hc hR
  have HR := Lib.hid hr
  have HP := Lib.hid hP
  have HRR := Lib.hid hR
  clear hr hR hP
  go_enter Try.func110, Try.ntmps110
  go_upto_region 1 with fail
  (have hX1 := Box2.new (Below.refl w.heap.size w) (Value.int IntKind.i64 (n : Int)) (Value.slice A es.length c) 25
   generalize w.alloc (Obj.cells #[Value.int IntKind.i64 (n : Int), Value.slice A es.length c] 25) = w1 at hX1 ⊢
   have c0 := hX1.c0
   have c1 := hX1.c1)
  go_upto_region 2 with (go_at_call 32; (refine (HLA w1 (HR.out.below hX1.below)).mono ?_; rintro e w2 ⟨M, mA, g, r, k, rfl, hM, hno, hRO, _, _, hr, hk, hb2⟩))
  have hX2 := (hX1.go hb2).old (.cells #[Value.int IntKind.i64 (r : Int), Value.int IntKind.i64 (k : Int)] 28)
  have hRO2 := hRO.old (.cells #[Value.int IntKind.i64 (r : Int), Value.int IntKind.i64 (k : Int)] 28)
  generalize w2.alloc (.cells #[Value.int IntKind.i64 (r : Int), Value.int IntKind.i64 (k : Int)] 28) = w3 at hX2 hRO2 ⊢
  have HPA := (show Calls Try.prog 39 #[.agg #[.int .i64 (n : Int), .slice A es.length c], .slice mA n n] w3 (fun e w' => ∃ B L, e = .returned (.tuple #[.slice none 0 0, .slice (some ⟨B, 0, none⟩) n n, .int .i64 0]) ∧ LabP n (adjE es) M L ∧ RowI w' 3 B (natL n L) ∧ Below w3.heap.size w3 w') from (path_yes n es A mA c n M w3 (HR.out.below hX2.below) hc HRR.out hRO2.reads hM (Nat.le_refl _)).mono (by
    rintro e w' (⟨p, g, cg, rfl, haug, _⟩ | ⟨B, S, D, rfl, hFI, hCl, hRow, _, hb⟩)
    · exact absurd haug (hno p)
    · exact ⟨B, labF S, rfl, lab_labF (right_gr HP.out) hM hFI hCl, hRow, hb⟩))
  have HM := Lib.hid (And.intro hM hno)
  have HRO := Lib.hid hRO2.reads
  have HX2 := Lib.hid hX2.below
  have c0 := hX2.c0
  have c1 := hX2.c1
  clear hX1 hX2 hRO hRO2 hM hno hb2 hr hk HLA
  go_wp2_with (go_at_call 39; (refine HPA.mono ?_; rintro e w4 ⟨B, L, rfl, hL, hRow, hb4⟩))
  go_ret3
  exact ⟨M, L, B, mA, rfl, HM.out.1, HM.out.2, hL, hRow, HRO.out.below hb4, HX2.out.trans (hb4.mono HX2.out.size)⟩

open Classical in
/-- Is it critical? -/
noncomputable def critB (n : Int) (es : List (Int × Int)) : Bool := decide (RightP n es ∧ CritG n.toNat (adjE es))

set_option maxHeartbeats 2000000 in
theorem is_any (n : Int) (es : List (Int × Int)) (A : Option Addr) (c : Nat) (w : World) (hr : Reads w A (pcells es)) (hc : es.length ≤ c) (hm : es.length ≤ 4611686018427387903) :
    Calls Try.prog 55 #[.agg #[.int .i64 n, .slice A es.length c]] w fun e w' => e = .returned (.bool (critB n es)) ∧ Below w.heap.size w w' := by
  by_cases hP : RightP n es
  · obtain ⟨k, rfl⟩ : ∃ k : Nat, n = (k : Int) := ⟨n.toNat, by have := hP.n0; omega⟩
    have HBL := fun (W : World) (h : Reads W A (pcells es)) => blab_yes k es A c W h hc hP
    have hk : k ≤ 4096 := by have := hP.n1; omega
    have HR := Lib.hid hr
    have HG := Lib.hid (right_gr hP)
    have HP := Lib.hid hP
    clear hr hP
    obtain ⟨cb, hcb⟩ : ∃ cb, cb = critB (k : Int) es := ⟨_, rfl⟩
    rw [← hcb]
    have HCB := Lib.hid hcb
    clear hcb
    go_enter Try.func55, Try.ntmps55
    go_upto_region 1 with fail
    (have hX1 := Box2.new (Below.refl w.heap.size w) (Value.int IntKind.i64 (k : Int)) (Value.slice A es.length c) 25
     generalize w.alloc (Obj.cells #[Value.int IntKind.i64 (k : Int), Value.slice A es.length c] 25) = w1 at hX1 ⊢
     have c0 := hX1.c0
     have c1 := hX1.c1)
    go_upto_region 2 with (go_at_call 110; (refine (HBL w1 (HR.out.below hX1.below)).mono ?_; rintro e w2 ⟨M, L, B, mA, rfl, hM, hno, hL, hRow, hrm, hb2⟩))
    have hcr := crit_of HG.out hM hno hL
    have hio := idxO_nat k L
    have HF := mates_free mA k w2 hrm (by omega)
    have hB2 := hX1.below.trans (hb2.mono hX1.below.size)
    have hval : cb = (decide (((natI (freeL k M)).length : Int) = 1) && !decide (0 ≤ idxO (natL k L))) := by
      rw [HCB.out]
      unfold critB
      rw [Bool.eq_iff_iff]
      simp only [decide_eq_true_eq, Bool.and_eq_true, Bool.not_eq_true', decide_eq_false_iff_not, Int.toNat_natCast, natI_length]
      rw [← hcr, hio, Classical.not_not]
      exact ⟨fun h => ⟨by have := h.2.1; omega, h.2.2⟩, fun h => ⟨HP.out, by have := h.1; omega, h.2⟩⟩
    have HCO := fun (W : World) (h : Below w2.heap.size w2 W) => conto_any (natL k L) (.slice (some ⟨B, 0, none⟩) k k) (some ⟨B, 0, none⟩) k k W (hRow.below h hRow.lt).reads (by simp [natL]) (by omega)
    have hcl : Calls Try.prog 108 #[.slice mA k k] w2 fun e w' => ∃ A c, e = .returned (.slice A (natI (freeL k M)).length c) ∧ Below w2.heap.size w2 w' := HF.mono (by
      rintro e w' ⟨v, rfl, ho⟩
      obtain ⟨A9, c9, rfl, _, _⟩ := ho.slice
      exact ⟨A9, c9, rfl, ho.2⟩)
    clear hcr hio HF hL hM hno hX1
    generalize (natI (freeL k M)).length = fl at *
    generalize idxO (natL k L) = ix at *
    have HVAL := Lib.hid hval
    have HB2 := Lib.hid hB2
    clear hval hB2 hb2 hrm hRow
    by_cases h1 : fl = 1
    · subst h1
      go_wp2_with (first
        | (go_at_call 108; refine hcl.mono ?_; rintro e w3 ⟨A9, c9, rfl, hb3⟩)
        | (go_at_call 111; refine (HCO _ hb3).mono ?_; rintro e w4 ⟨rfl, rfl⟩))
      go_ret
      exact ⟨by rw [HVAL.out]; simp, HB2.out.trans (hb3.mono HB2.out.size)⟩
    · have d1 : decide ((fl : Int) = 1) = false := decide_eq_false (by omega)
      have d2 : ((fl : Int) == 1) = false := by rw [beq_eq_false_iff_ne]; omega
      go_wp2_with (go_at_call 108; refine hcl.mono ?_; rintro e w3 ⟨A9, c9, rfl, hb3⟩)
      go_ret
      exact ⟨by rw [HVAL.out, d1]; simp, HB2.out.trans (hb3.mono HB2.out.size)⟩
  · have hR : rightB n es = false := by rw [Bool.eq_false_iff]; exact fun h => hP ((right_iff _ _).1 h)
    have hv : critB n es = false := by unfold critB; rw [decide_eq_false_iff_not]; exact fun h => hP h.1
    rw [hv]
    have HBL := fun (W : World) (h : Reads W A (pcells es)) => blab_no n es A c W h hc hm hR
    have HR := Lib.hid hr
    clear hr hR hv hP
    go_enter Try.func55, Try.ntmps55
    go_upto_region 1 with fail
    (have hX1 := Box2.new (Below.refl w.heap.size w) (Value.int IntKind.i64 n) (Value.slice A es.length c) 25
     generalize w.alloc (Obj.cells #[Value.int IntKind.i64 n, Value.slice A es.length c] 25) = w1 at hX1 ⊢
     have c0 := hX1.c0
     have c1 := hX1.c1)
    go_wp2_with (go_at_call 110; (refine (HBL w1 (HR.out.below hX1.below)).mono ?_; rintro e w2 ⟨rfl, hb2⟩))
    go_ret
    exact ⟨rfl, hX1.below.trans (hb2.mono hX1.below.size)⟩
end Go.Proofs.Ytgddfmfiiodgbaa

/- Graphs within graphs: numbers of what is kept (no program in sight). -/
namespace Go.Proofs.Ytgddfmfiiodgbaa
open Go Go.RowKit
set_option linter.unusedVariables false
set_option linter.unusedSimpArgs false

/-- How many ahead of a vertex are kept. -/
def rkN (kp : Nat → Bool) (k : Nat) : Nat := ((List.range k).filter kp).length
def wasL (n : Nat) (kp : Nat → Bool) : List Nat := (List.range n).filter kp
theorem rkN_zero (kp : Nat → Bool) : rkN kp 0 = 0 := rfl
theorem rkN_succ (kp : Nat → Bool) (k : Nat) : rkN kp (k + 1) = if kp k = true then rkN kp k + 1 else rkN kp k := by
  unfold rkN
  rw [List.range_succ, List.filter_append]
  by_cases h : kp k = true
  · simp [h]
  · simp [h]
theorem wasL_succ (kp : Nat → Bool) (k : Nat) : wasL (k + 1) kp = if kp k = true then wasL k kp ++ [k] else wasL k kp := by
  unfold wasL
  rw [List.range_succ, List.filter_append]
  by_cases h : kp k = true
  · simp [h]
  · simp [h]
theorem wasL_length (kp : Nat → Bool) (k : Nat) : (wasL k kp).length = rkN kp k := rfl
theorem rkN_le (kp : Nat → Bool) (k : Nat) : rkN kp k ≤ k := by
  have := List.length_filter_le kp (List.range k)
  simpa [rkN] using this
theorem rkN_mono (kp : Nat → Bool) {a b : Nat} (h : a ≤ b) : rkN kp a ≤ rkN kp b := by
  induction b with
  | zero => obtain rfl : a = 0 := by omega
            exact Nat.le_refl _
  | succ b ih =>
    by_cases e : a = b + 1
    · subst e; exact Nat.le_refl _
    · have := ih (by omega)
      rw [rkN_succ]
      split <;> omega
theorem rkN_lt (kp : Nat → Bool) {a b : Nat} (h : a < b) (ha : kp a = true) : rkN kp a < rkN kp b := by
  have := rkN_mono kp (show a + 1 ≤ b from h)
  rw [rkN_succ, if_pos ha] at this
  omega
theorem rkN_inj (kp : Nat → Bool) {a b : Nat} (ha : kp a = true) (hb : kp b = true) (h : rkN kp a = rkN kp b) : a = b := by
  rcases Nat.lt_trichotomy a b with h' | h' | h'
  · have := rkN_lt kp h' ha; omega
  · exact h'
  · have := rkN_lt kp h' hb; omega
theorem was_get (kp : Nat → Bool) {n a : Nat} (ha : a < n) (hk : kp a = true) : (wasL n kp)[rkN kp a]? = some a := by
  induction n with
  | zero => omega
  | succ n ih =>
    rw [wasL_succ]
    by_cases e : a = n
    · subst e
      rw [if_pos hk, List.getElem?_append_right (by rw [wasL_length]; exact Nat.le_refl _), wasL_length]
      simp
    · have := ih (by omega)
      split
      · rw [List.getElem?_append_left]
        · exact this
        · rw [wasL_length]; exact rkN_lt kp (by omega) hk
      · exact this
theorem was_mem (kp : Nat → Bool) {n i a : Nat} (h : (wasL n kp)[i]? = some a) : a < n ∧ kp a = true ∧ rkN kp a = i := by
  have hm := List.mem_of_getElem? h
  unfold wasL at hm
  simp only [List.mem_filter, List.mem_range] at hm
  refine ⟨hm.1, hm.2, ?_⟩
  have hg := was_get kp hm.1 hm.2
  have hnd : (wasL n kp).Nodup := List.Nodup.sublist List.filter_sublist List.nodup_range
  have hi : i < (wasL n kp).length := by
    rcases Nat.lt_or_ge i (wasL n kp).length with h' | h'
    · exact h'
    · rw [List.getElem?_eq_none h'] at h; simp at h
  have hj : rkN kp a < (wasL n kp).length := by rw [wasL_length]; exact rkN_lt kp hm.1 hm.2
  rw [List.getElem?_eq_getElem hi] at h
  rw [List.getElem?_eq_getElem hj] at hg
  simp only [Option.some.injEq] at h hg
  have hpw := List.pairwise_iff_getElem.1 hnd
  rcases Nat.lt_trichotomy (rkN kp a) i with h' | h' | h'
  · exact absurd (hg.trans h.symm) (hpw _ _ hj hi h')
  · exact h'
  · exact absurd (h.trans hg.symm) (hpw _ _ hi hj h')

/-- The edges of which both ends are kept, by their new numbers. -/
def bothK (kp : Nat → Bool) (e : Int × Int) : Bool := kp e.1.toNat && kp e.2.toNat
def newE (kp : Nat → Bool) (e : Int × Int) : Int × Int := ((rkN kp e.1.toNat : Nat), (rkN kp e.2.toNat : Nat))
def keptL (kp : Nat → Bool) (es : List (Int × Int)) : List (Int × Int) := (es.filter (bothK kp)).map (newE kp)
theorem keptL_snoc (kp : Nat → Bool) (es : List (Int × Int)) (e : Int × Int) : keptL kp (es ++ [e]) = if bothK kp e = true then keptL kp es ++ [newE kp e] else keptL kp es := by
  unfold keptL
  rw [List.filter_append]
  by_cases h : bothK kp e = true
  · simp [h]
  · simp [h]
theorem keptL_len (kp : Nat → Bool) (es : List (Int × Int)) : (keptL kp es).length ≤ es.length := by
  unfold keptL
  rw [List.length_map]
  exact List.length_filter_le _ _

theorem keptL_right {n : Nat} {es : List (Int × Int)} (hP : RightP n es) (kp : Nat → Bool) : RightP (rkN kp n : Nat) (keptL kp es) := by
  have hle := rkN_le kp n
  refine ⟨by omega, by have := hP.n1; omega, by have := keptL_len kp es; have := hP.len; omega, fun e he => ?_, ?_⟩
  · unfold keptL at he
    obtain ⟨d, hd, rfl⟩ := List.mem_map.1 he
    obtain ⟨h1, h2⟩ := List.mem_filter.1 hd
    have h3 := hP.ok d h1
    simp only [bothK, Bool.and_eq_true] at h2
    have h4 := rkN_lt kp (show d.1.toNat < d.2.toNat by omega) h2.1
    have h5 := rkN_lt kp (show d.2.toNat < n by omega) h2.2
    simp only [newE]
    omega
  · unfold keptL
    rw [List.pairwise_map]
    have h1 : (es.filter (bothK kp)).Pairwise LtE := hP.inc.sublist List.filter_sublist
    refine h1.imp_of_mem fun {a b} ha hb hab => ?_
    obtain ⟨a1, a2⟩ := List.mem_filter.1 ha
    obtain ⟨b1, b2⟩ := List.mem_filter.1 hb
    simp only [bothK, Bool.and_eq_true] at a2 b2
    have oa := hP.ok a a1
    have ob := hP.ok b b1
    unfold LtE at hab ⊢
    simp only [newE]
    rcases hab with h | ⟨h, h'⟩
    · have := rkN_lt kp (show a.1.toNat < b.1.toNat by omega) a2.1
      left; omega
    · right
      have := rkN_lt kp (show a.2.toNat < b.2.toNat by omega) a2.2
      rw [h]
      omega
theorem keptL_adj {n : Nat} {es : List (Int × Int)} (hP : RightP n es) (kp : Nat → Bool) {a b : Nat} (ha : kp a = true) (hb : kp b = true) : adjE (keptL kp es) (rkN kp a) (rkN kp b) ↔ adjE es a b := by
  have key : ∀ {a b : Nat}, kp a = true → kp b = true → (((rkN kp a : Nat) : Int), ((rkN kp b : Nat) : Int)) ∈ keptL kp es → ((a : Int), (b : Int)) ∈ es := fun {a b} ha hb h => by
    unfold keptL at h
    obtain ⟨d, hd, e⟩ := List.mem_map.1 h
    obtain ⟨h1, h2⟩ := List.mem_filter.1 hd
    simp only [bothK, Bool.and_eq_true] at h2
    have h3 := hP.ok d h1
    simp only [newE, Prod.mk.injEq] at e
    have e1 := rkN_inj kp h2.1 ha (by omega)
    have e2 := rkN_inj kp h2.2 hb (by omega)
    have : d = ((a : Int), (b : Int)) := Prod.ext (by simp only; omega) (by simp only; omega)
    rw [← this]; exact h1
  have key2 : ∀ {a b : Nat}, kp a = true → kp b = true → ((a : Int), (b : Int)) ∈ es → (((rkN kp a : Nat) : Int), ((rkN kp b : Nat) : Int)) ∈ keptL kp es := fun {a b} ha hb h =>
    List.mem_map.2 ⟨_, List.mem_filter.2 ⟨h, by simp [bothK, ha, hb]⟩, by simp [newE]⟩
  unfold adjE
  exact ⟨fun h => h.elim (fun h => .inl (key hb ha h)) (fun h => .inr (key ha hb h)), fun h => h.elim (fun h => .inl (key2 hb ha h)) (fun h => .inr (key2 ha hb h))⟩

section
variable {n : Nat} {E E' : Nat → Nat → Prop} {kp : Nat → Bool}
/-- A matching of what is kept, in the whole. -/
def liftM (n : Nat) (kp : Nat → Bool) (M' : Nat → Option Nat) (x : Nat) : Option Nat := if x < n ∧ kp x = true then (M' (rkN kp x)).bind fun b => (wasL n kp)[b]? else none
theorem liftM_some {M' : Nat → Option Nat} (hM : IsMat (rkN kp n) E' M') {x y : Nat} : liftM n kp M' x = some y ↔ x < n ∧ kp x = true ∧ y < n ∧ kp y = true ∧ M' (rkN kp x) = some (rkN kp y) := by
  unfold liftM
  by_cases hx : x < n ∧ kp x = true
  · rw [if_pos hx]
    constructor
    · intro h
      cases hm : M' (rkN kp x) with
      | none => rw [hm] at h; cases h
      | some b =>
        rw [hm] at h
        obtain ⟨h1, h2, h3⟩ := was_mem kp (show (wasL n kp)[b]? = some y from h)
        exact ⟨hx.1, hx.2, h1, h2, by rw [h3]⟩
    · rintro ⟨_, _, h1, h2, h3⟩
      rw [h3]
      exact was_get kp h1 h2
  · rw [if_neg hx]
    exact ⟨fun h => (by cases h), fun h => absurd ⟨h.1, h.2.1⟩ hx⟩
theorem lift_mat {M' : Nat → Option Nat} (hE : ∀ a b, kp a = true → kp b = true → E' (rkN kp a) (rkN kp b) → E a b) (hM : IsMat (rkN kp n) E' M') : IsMat n E (liftM n kp M') := by
  refine ⟨fun {v w} h => ?_, fun {v w} h => ?_, fun {v w} h => ?_⟩
  · obtain ⟨h1, h2, h3, h4, h5⟩ := (liftM_some hM).1 h
    exact (liftM_some hM).2 ⟨h3, h4, h1, h2, hM.symm h5⟩
  · obtain ⟨h1, h2, h3, h4, h5⟩ := (liftM_some hM).1 h
    exact hE _ _ h2 h4 (hM.edge h5)
  · exact ((liftM_some hM).1 h).1
theorem lift_ne {M' : Nat → Option Nat} (hM : IsMat (rkN kp n) E' M') {x : Nat} (hx : x < n) (hk : kp x = true) (h : M' (rkN kp x) ≠ none) : liftM n kp M' x ≠ none := by
  cases hm : M' (rkN kp x) with
  | none => exact absurd hm h
  | some b =>
    have hb := hM.lt (hM.symm hm)
    obtain ⟨y, hy⟩ : ∃ y, (wasL n kp)[b]? = some y := ⟨(wasL n kp)[b]'(by rw [wasL_length]; exact hb), by simp [wasL_length, hb]⟩
    have := (was_mem kp hy)
    rw [(liftM_some hM).2 ⟨hx, hk, this.1, this.2.1, by rw [hm, this.2.2]⟩]
    simp
/-- A matching that touches what is kept alone, of that. -/
def dropM (n : Nat) (kp : Nat → Bool) (M : Nat → Option Nat) (a : Nat) : Option Nat := ((wasL n kp)[a]?).bind fun x => (M x).map (rkN kp)
theorem drop_mat {M : Nat → Option Nat} (hE : ∀ a b, kp a = true → kp b = true → E a b → E' (rkN kp a) (rkN kp b)) (hM : IsMat n E M) (hk : ∀ x y, M x = some y → kp x = true) : IsMat (rkN kp n) E' (dropM n kp M) := by
  have key : ∀ {a b}, dropM n kp M a = some b → ∃ x y, (wasL n kp)[a]? = some x ∧ M x = some y ∧ (wasL n kp)[b]? = some y := fun {a b} h => by
    unfold dropM at h
    cases hx : (wasL n kp)[a]? with
    | none => rw [hx] at h; cases h
    | some x =>
      rw [hx] at h
      cases hy : M x with
      | none => simp [hy] at h
      | some y =>
        simp [hy] at h
        refine ⟨x, y, rfl, hy, ?_⟩
        rw [← h]
        exact was_get kp (hM.lt (hM.symm hy)) (hk y x (hM.symm hy))
  have key2 : ∀ {a b x y}, (wasL n kp)[a]? = some x → M x = some y → (wasL n kp)[b]? = some y → dropM n kp M a = some b := fun {a b x y} h1 h2 h3 => by
    unfold dropM
    rw [h1]
    simp [h2, (was_mem kp h3).2.2]
  refine ⟨fun {v w} h => ?_, fun {v w} h => ?_, fun {v w} h => ?_⟩
  · obtain ⟨x, y, h1, h2, h3⟩ := key h
    exact key2 h3 (hM.symm h2) h1
  · obtain ⟨x, y, h1, h2, h3⟩ := key h
    have g1 := was_mem kp h1
    have g3 := was_mem kp h3
    rw [← g1.2.2, ← g3.2.2]
    exact hE _ _ g1.2.1 g3.2.1 (hM.edge h2)
  · obtain ⟨x, y, h1, h2, h3⟩ := key h
    have g1 := was_mem kp h1
    rw [← g1.2.2]
    exact rkN_lt kp g1.1 g1.2.1

/-- Who is left, if one is left aside. -/
theorem not_lacks {M' : Nat → Option Nat} {v : Nat} (hv : v < n) (hkp : ∀ x, kp x = !decide (x = v)) (hg' : IsGr (rkN kp n) E') (hE : ∀ a b, kp a = true → kp b = true → E a b → E' (rkN kp a) (rkN kp b)) (hM : IsMat (rkN kp n) E' M') (hno : ∀ p, ¬ AugW E' M' p) {a : Nat} (ha : a < rkN kp n) (hf : M' a = none) : ¬ Lacks n E v := by
  rintro ⟨M, h1, h2, h3⟩
  have hk : ∀ x y, M x = some y → kp x = true := fun x y h => by
    rw [hkp]
    simp
    intro e
    rw [e, h2] at h; cases h
  have hd := drop_mat hE h1 hk
  have hb := berge hg' hM hd hno
  have h0 : freeL (rkN kp n) (dropM n kp M) = [] := by
    rw [List.eq_nil_iff_forall_not_mem]
    intro b hb
    obtain ⟨hb1, hb2⟩ := mem_freeL.1 hb
    obtain ⟨y, hy⟩ : ∃ y, (wasL n kp)[b]? = some y := ⟨(wasL n kp)[b]'(by rw [wasL_length]; exact hb1), by simp [wasL_length, hb1]⟩
    have g := was_mem kp hy
    have hyv : y ≠ v := by have := g.2.1; rw [hkp] at this; simpa using this
    have h4 := h3 y g.1 hyv
    unfold dropM at hb2
    rw [hy] at hb2
    simp at hb2
    exact h4 hb2
  have hm : a ∈ freeL (rkN kp n) M' := mem_freeL.2 ⟨ha, hf⟩
  have hp := List.length_pos_of_mem hm
  rw [h0] at hb
  simp only [List.length_nil] at hb
  omega
theorem lacks_lift {M' : Nat → Option Nat} {v : Nat} (hkp : ∀ x, kp x = !decide (x = v)) (hE : ∀ a b, kp a = true → kp b = true → E' (rkN kp a) (rkN kp b) → E a b) (hM : IsMat (rkN kp n) E' M') (hall : ∀ a, a < rkN kp n → M' a ≠ none) :
    IsMat n E (liftM n kp M') ∧ liftM n kp M' v = none ∧ ∀ u, u < n → u ≠ v → liftM n kp M' u ≠ none := by
  refine ⟨lift_mat hE hM, ?_, fun u hu hne => ?_⟩
  · unfold liftM
    rw [if_neg]
    rintro ⟨_, h⟩
    rw [hkp] at h
    simp at h
  · have hk : kp u = true := by rw [hkp]; simpa using hne
    exact lift_ne hM hu hk (hall _ (rkN_lt kp hu hk))
end
end Go.Proofs.Ytgddfmfiiodgbaa
