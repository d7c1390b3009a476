/- Degrees in a row of edges: what they sum up to; neighbours rise (no program in sight). -/
import Derived.Test.YtglhdoibglafbaaMGadgetPlaces4
import Derived.BigRegion
import Derived.Laws.CopyRow
import Derived.Laws.Externs
import Derived.Lib.Overlaps
import Derived.Lib.AppendZerosOnto
import Derived.Lib.AppendZeros
import Derived.Deep.RegionLaw
namespace Go.Proofs.Ytglhdoibglafbaa
set_option maxRecDepth 100000
set_option linter.unusedVariables false

def degSum (es : List (Int × Int)) : Nat → Nat
  | 0 => 0
  | k + 1 => degSum es k + (nearL es k).length
def oneAt (a : Int) : Nat → Nat
  | 0 => 0
  | k + 1 => oneAt a k + if a = (k : Int) then 1 else 0
theorem oneAt_eq (a : Int) (k : Nat) : oneAt a k = if 0 ≤ a ∧ a < (k : Int) then 1 else 0 := by
  induction k with
  | zero => unfold oneAt; rw [if_neg (by omega)]
  | succ k ih =>
    unfold oneAt; rw [ih]
    by_cases h1 : a = (k : Int)
    · rw [if_neg (by omega), if_pos h1, if_pos (by omega)]
    · by_cases h2 : 0 ≤ a ∧ a < (k : Int)
      · rw [if_pos h2, if_neg h1, if_pos (by omega)]
      · rw [if_neg h2, if_neg h1, if_neg (by omega)]
theorem nearL_cons (e : Int × Int) (es : List (Int × Int)) (v : Int) : (nearL (e :: es) v).length = (nearL es v).length + ((if e.2 = v then 1 else 0) + (if e.1 = v then 1 else 0)) := by
  unfold nearL lowL highL
  by_cases h1 : e.2 = v <;> by_cases h2 : e.1 = v <;> simp [h1, h2] <;> omega
theorem degSum_cons (e : Int × Int) (es : List (Int × Int)) (k : Nat) : degSum (e :: es) k = degSum es k + (oneAt e.2 k + oneAt e.1 k) := by
  induction k with
  | zero => rfl
  | succ k ih =>
    unfold degSum oneAt
    rw [ih, nearL_cons]
    omega
theorem degSum_nil (k : Nat) : degSum [] k = 0 := by
  induction k with
  | zero => rfl
  | succ k ih => unfold degSum; rw [ih]; rfl
theorem degSum_all (es : List (Int × Int)) (n : Nat) (h : ∀ e ∈ es, 0 ≤ e.1 ∧ e.1 < (n : Int) ∧ 0 ≤ e.2 ∧ e.2 < (n : Int)) : degSum es n = 2 * es.length := by
  induction es with
  | nil => rw [degSum_nil]; rfl
  | cons e es ih =>
    have h1 := h e (by simp)
    rw [degSum_cons, ih (fun x hx => h x (List.mem_cons_of_mem _ hx)), oneAt_eq, oneAt_eq, if_pos (by omega), if_pos (by omega), List.length_cons]
    omega
theorem degSum_le (es : List (Int × Int)) (k : Nat) : degSum es k ≤ k * (es.length + es.length) := by
  induction k with
  | zero => simp [degSum]
  | succ k ih =>
    have := nearL_length es k
    unfold degSum
    rw [Nat.succ_mul]
    omega

theorem lowL_rises {n : Int} {es : List (Int × Int)} (h : RightP n es) (v : Int) : (lowL es v).Pairwise (· < ·) := by
  unfold lowL
  rw [List.pairwise_map, List.pairwise_filter]
  refine h.inc.imp ?_
  intro a b hab ha hb
  simp at ha hb
  unfold LtE at hab
  omega
theorem highL_rises {n : Int} {es : List (Int × Int)} (h : RightP n es) (v : Int) : (highL es v).Pairwise (· < ·) := by
  unfold highL
  rw [List.pairwise_map, List.pairwise_filter]
  refine h.inc.imp ?_
  intro a b hab ha hb
  simp at ha hb
  unfold LtE at hab
  omega
theorem nearL_rises {n : Int} {es : List (Int × Int)} (h : RightP n es) (v : Int) : (nearL es v).Pairwise (· < ·) := by
  unfold nearL
  rw [List.pairwise_append]
  refine ⟨lowL_rises h v, highL_rises h v, fun a ha b hb => ?_⟩
  have h1 := h.ok _ (mem_lowL.1 ha)
  have h2 := h.ok _ (mem_highL.1 hb)
  simp at h1 h2
  omega
theorem findE_at {n : Int} {es : List (Int × Int)} (h : RightP n es) (k : Nat) (e : Int × Int) (hk : es[k]? = some e) : findE es e = k := by
  refine findE_yes es e k hk fun j hj he => ?_
  have := List.pairwise_iff_getElem.1 h.inc j k (List.getElem?_eq_some_iff.1 he).1 (List.getElem?_eq_some_iff.1 hk).1 hj
  rw [(List.getElem?_eq_some_iff.1 he).2, (List.getElem?_eq_some_iff.1 hk).2] at this
  exact LtE.irrefl e this
theorem index_at {n : Int} {es : List (Int × Int)} (h : RightP n es) (k : Nat) (x y : Int) (hk : es[k]? = some (x, y)) : indexB n es y x = k := by
  have hlt := (h.ok _ (List.mem_of_getElem? hk)).2.1
  simp at hlt
  unfold indexB
  rw [if_pos ((right_iff _ _).2 h), show min y x = x by omega, show max y x = y by omega]
  exact findE_at h k _ hk
end Go.Proofs.Ytglhdoibglafbaa

/- A graph of few edges has no large gadget: plain. -/
namespace Go.Proofs.Ytglhdoibglafbaa
open Go Go.RowKit
set_option maxRecDepth 100000
set_option linter.unusedVariables false

theorem ports_at (m : Nat) (es : List (Int × Int)) (hR : rightB m es = true) (k : Nat) (hk : k < m) : (ports m es)[k]?.getD 0 = ((nearL es (k : Int)).length : Int) := by
  rw [ports_near m es ((right_iff _ _).1 hR).ok k hk]; rfl

theorem gN_deg (m : Nat) (es : List (Int × Int)) (f : List Int) (hR : rightB m es = true) (hf : ∀ i : Nat, 0 ≤ f[i]?.getD 0) : ∀ k, k ≤ m → gN (ports m es) f k ≤ 2 * (degSum es k : Int) := by
  intro k
  induction k with
  | zero => intro _; rw [gN]; omega
  | succ k ih =>
    intro hk
    have h1 := ih (by omega)
    have h2 := hf k
    have h3 : degSum es (k + 1) = degSum es k + (nearL es (k : Int)).length := rfl
    rw [gN, ports_at m es hR k (by omega), h3]
    unfold corE
    omega

theorem gE_deg (m : Nat) (es : List (Int × Int)) (f : List Int) (b : Int) (hR : rightB m es = true) (hf : ∀ i : Nat, 0 ≤ f[i]?.getD 0) : ∀ k, k ≤ m → gE (ports m es) f b k ≤ b + (degSum es k : Int) * (degSum es k : Int) := by
  intro k
  induction k with
  | zero => intro _; simp [gE, degSum]
  | succ k ih =>
    intro hk
    have h1 := ih (by omega)
    have h2 := hf k
    have h3 : degSum es (k + 1) = degSum es k + (nearL es (k : Int)).length := rfl
    rw [gE, ports_at m es hR k (by omega), h3, Int.natCast_add]
    have h4 : corE ((nearL es (k : Int)).length : Int) (f[k]?.getD 0) ≤ ((nearL es (k : Int)).length : Int) := by unfold corE; omega
    generalize corE ((nearL es (k : Int)).length : Int) (f[k]?.getD 0) = r at *
    have hp : (0 : Int) ≤ ((nearL es (k : Int)).length : Int) := by omega
    have hD : (0 : Int) ≤ (degSum es k : Int) := by omega
    generalize ((nearL es (k : Int)).length : Int) = p at *
    generalize (degSum es k : Int) = D at *
    have e : (D + p) * (D + p) = D * D + p * D + (D * p + p * p) := by rw [Int.mul_add, Int.add_mul, Int.add_mul]
    have g1 := Int.mul_le_mul_of_nonneg_left h4 hp
    have g2 := Int.mul_nonneg hD hp
    have g3 := Int.mul_nonneg hp hD
    rw [e]
    omega

theorem not_large (m : Nat) (es : List (Int × Int)) (f : List Int) (hde : degErr m es f = 0) (hl : es.length ≤ 100) : gN (ports m es) f m ≤ 65536 ∧ gE (ports m es) f es.length m ≤ 1048576 := by
  obtain ⟨hP, _, hfb, hs⟩ := degErr_small hde
  have hR : rightB m es = true := (right_iff _ _).2 hP
  have hf : ∀ i : Nat, 0 ≤ f[i]?.getD 0 := fun i => (hs i).2.2
  have hS : degSum es m = 2 * es.length := degSum_all es m (fun e he => by have := hP.ok e he; omega)
  have h1 := gN_deg m es f hR hf m (Nat.le_refl _)
  have h2 := gE_deg m es f es.length hR hf m (Nat.le_refl _)
  rw [hS] at h1 h2
  refine ⟨by omega, ?_⟩
  have h3 : ((2 * es.length : Nat) : Int) * ((2 * es.length : Nat) : Int) ≤ 200 * 200 := Int.mul_le_mul (by omega) (by omega) (by omega) (by omega)
  omega
end Go.Proofs.Ytglhdoibglafbaa

/- Places of gadgets of graphs of few edges: both contracts, all cases. -/
namespace Go.Proofs.Ytglhdoibglafbaa
open Go Go.RowKit
set_option maxRecDepth 100000
set_option linter.unusedVariables false

def plC (m : Nat) (es : List (Int × Int)) (f : List Int) : List Int := upTo m m (fun i => corE ((ports m es)[i]?.getD 0) (f[i]?.getD 0))
def plAll (m : Nat) (es : List (Int × Int)) (f : List Int) : List Pl := placesL (ports m es) (plC m es f) m
def PlPost (m : Nat) (es : List (Int × Int)) (f : List Int) (w : World) (e : Ending) (w' : World) : Prop :=
  ∃ v, e = .returned (.tuple #[v, .int .i64 0]) ∧ w'.ownsRow w.heap.size 70 3 v (plAll m es f).length (plcells (plAll m es f)) ∧ Below w.heap.size w w'

theorem plC_get (m : Nat) (es : List (Int × Int)) (f : List Int) (k : Nat) (hk : k < m) : (plC m es f)[k]? = some (corE ((ports m es)[k]?.getD 0) (f[k]?.getD 0)) := by
  unfold plC; rw [upTo_get m m _ k hk, if_pos hk]
theorem placesL_len (m : Nat) (es : List (Int × Int)) (f : List Int) (hs : Small2 (ports m es) f) : ∀ k, k ≤ m → ((placesL (ports m es) (plC m es f) k).length : Int) = gN (ports m es) f k := by
  intro k
  induction k with
  | zero => intro _; rfl
  | succ k ih =>
    intro hk
    have h1 := ih (by omega)
    have h2 := hs k
    rw [placesL_succ, gN, plC_get m es f k (by omega)]
    simp only [List.length_append, prt_length, cor_length, Option.getD_some]
    unfold corE
    omega
theorem degSum_mono (es : List (Int × Int)) (k : Nat) : ∀ m, k ≤ m → degSum es k ≤ degSum es m := by
  intro m
  induction m with
  | zero =>
    intro h
    have h0 : k = 0 := by omega
    rw [h0]; exact Nat.le_refl _
  | succ m ih =>
    intro h
    have h3 : degSum es (m + 1) = degSum es m + (nearL es (m : Int)).length := rfl
    by_cases he : k = m + 1
    · subst he; exact Nat.le_refl _
    · have := ih (by omega); omega
theorem placesL_small (m : Nat) (es : List (Int × Int)) (f : List Int) (hde : degErr m es f = 0) (hl : es.length ≤ 100) : ∀ k, k ≤ m → (placesL (ports m es) (plC m es f) k).length ≤ 65536 := by
  obtain ⟨hP, _, hfb, hs⟩ := degErr_small hde
  have hR : rightB m es = true := (right_iff _ _).2 hP
  have hf : ∀ i : Nat, 0 ≤ f[i]?.getD 0 := fun i => (hs i).2.2
  have hS : degSum es m = 2 * es.length := degSum_all es m (fun e he => by have := hP.ok e he; omega)
  intro k hk
  have h1 := placesL_len m es f hs k hk
  have h2 := gN_deg m es f hR hf k hk
  have h3 := degSum_mono es k m hk
  omega

theorem places_any (m : Nat) (es : List (Int × Int)) (f : List Int) (A Af : Option Addr) (c cf : Nat) (w : World) (hr : Reads w A (pcells es)) (hc : es.length ≤ c) (hl : es.length ≤ 100)
    (hrf : Reads w Af (icells f)) (hcf : f.length ≤ cf) (hmf : f.length ≤ 4611686018427387903) (hde : degErr m es f = 0) :
    Calls Try.prog 46 #[.agg #[.int .i64 (m : Int), .slice A es.length c], .slice Af f.length cf] w (PlPost m es f w) := by
  obtain ⟨hP, hfl, hfb, hs⟩ := degErr_small hde
  have hnl := not_large m es f hde hl
  have hdeg : ∀ i : Nat, (ports m es)[i]?.getD 0 ≤ 65536 := fun i => by
    by_cases hi : i < m
    · rw [ports_at m es ((right_iff _ _).2 hP) i hi]
      have := nearL_length es (i : Int)
      omega
    · rw [List.getElem?_eq_none (by rw [ports_length]; omega)]; simp
  have hm := hP.n1
  refine places_ok m es f (ports m es) (plC m es f) A Af c cf w hr hrf (by omega) (ports_length m es) (by unfold plC; rw [upTo_length]) (fun i => (hs i).1) (fun i => ?_) (placesL_small m es f hde hl) hdeg (fun i => ?_) ?_
  · by_cases hi : i < m
    · rw [plC_get m es f i hi]; simp only [Option.getD_some]; unfold corE; omega
    · rw [List.getElem?_eq_none (by unfold plC; rw [upTo_length]; omega)]; simp
  · by_cases hi : i < m
    · rw [plC_get m es f i hi]
      have := hdeg i
      have := hs i
      simp only [Option.getD_some]; unfold corE; omega
    · rw [List.getElem?_eq_none (by unfold plC; rw [upTo_length]; omega)]; simp
  · intro W h1 h2
    refine (new_any m es f A Af c cf W h1 hc (by omega) h2 hcf hmf hde).mono fun e w' h => ?_
    rcases h with h | ⟨_, g, bF, bP, bC, bN, he, hb, hg, _, _, _, hG⟩
    · exact absurd h.1 (by omega)
    · exact ⟨g, bP, bC, he, hb, blkl hG.1, blkc hG.1 2 _ rfl, blkc hG.1 3 _ rfl, hG.2.2.1, hG.2.2.2.1⟩

theorem refSize_any (m : Nat) (es : List (Int × Int)) (f : List Int) (A Af : Option Addr) (c cf : Nat) (w : World) (hr : Reads w A (pcells es)) (hc : es.length ≤ c) (hl : es.length ≤ 100)
    (hrf : Reads w Af (icells f)) (hcf : f.length ≤ cf) (hmf : f.length ≤ 4611686018427387903) (hde : degErr m es f = 0) :
    Calls Try.prog 45 #[.agg #[.int .i64 (m : Int), .slice A es.length c], .slice Af f.length cf] w fun e w' => e = .returned (.tuple #[.int .i64 (gN (ports m es) f m), .int .i64 (gE (ports m es) f es.length m), .int .i64 0]) ∧ Below w.heap.size w w' := by
  obtain ⟨hP, hfl, hfb, hs⟩ := degErr_small hde
  have hnl := not_large m es f hde hl
  have hd := ports_deg m es ((right_iff _ _).2 hP)
  have hm := hP.n1
  rw [hd] at hnl hs ⊢
  exact refSize_ok m es f A Af c cf w hr hc (by omega) hrf hcf hmf (by omega) hde hfl hs hfb hnl.1 hnl.2

theorem refPlaces_any (m : Nat) (es : List (Int × Int)) (f : List Int) (A Af : Option Addr) (c cf : Nat) (w : World) (hr : Reads w A (pcells es)) (hc : es.length ≤ c) (hl : es.length ≤ 100)
    (hrf : Reads w Af (icells f)) (hcf : f.length ≤ cf) (hmf : f.length ≤ 4611686018427387903) (hde : degErr m es f = 0) :
    Calls Try.prog 47 #[.agg #[.int .i64 (m : Int), .slice A es.length c], .slice Af f.length cf] w (PlPost m es f w) := by
  obtain ⟨hP, hfl, hfb, hs⟩ := degErr_small hde
  have hR := (right_iff _ _).2 hP
  have hm := hP.n1
  have hnb : ∀ k : Nat, k < m → (ports m es)[k]? = some ((nearB m es (k : Int)).length : Int) := fun k hk => by rw [nearB_right hR]; exact ports_near m es hP.ok k hk
  refine refPlaces_ok m es f (ports m es) (plC m es f) A Af c cf _ _ w hr hc (by omega) hrf hcf hmf (by omega) hfl hfb hnb (fun k x hx => ?_) (placesL_small m es f hde hl) (fun k => ?_) (fun W h1 h2 => refSize_any m es f A Af c cf W h1 hc hl h2 hcf hmf hde)
  · have hk : k < m := by rw [← hfl]; exact (List.getElem?_eq_some_iff.1 hx).1
    rw [plC_get m es f k hk, hnb k hk, hx]; rfl
  · rw [nearB_right hR]
    have := nearL_length es (k : Int)
    omega
end Go.Proofs.Ytglhdoibglafbaa

/- A heap in a row of pairs; a row that is in order (no program in sight). -/
namespace Go.Proofs.Ytglhdoibglafbaa
set_option maxRecDepth 100000
set_option linter.unusedVariables false

abbrev PE := Int × Int
/-- Of places i and j: what stands at i does not come ahead of what stands at j. -/
def NotLt (l : List PE) (i j : Nat) : Prop := ∀ x y, l[i]? = some x → l[j]? = some y → ¬ LtE x y
def HeapN (l : List PE) (n : Nat) : Prop := ∀ i, 0 < i → i < n → NotLt l i ((i - 1) / 2)
def UpInv (l : List PE) (j : Nat) : Prop := (∀ i, 0 < i → i < l.length → i ≠ j → NotLt l i ((i - 1) / 2)) ∧ (∀ i, 0 < i → i < l.length → (i - 1) / 2 = j → 0 < j → NotLt l i ((j - 1) / 2))
def DownInv (l : List PE) (n i : Nat) : Prop := (∀ k, 0 < k → k < n → (k - 1) / 2 ≠ i → NotLt l k ((k - 1) / 2)) ∧ (∀ k, 0 < k → k < n → (k - 1) / 2 = i → 0 < i → NotLt l k ((i - 1) / 2))
def swapL (l : List PE) (i j : Nat) : List PE := match l[i]?, l[j]? with
  | some x, some y => (l.set i y).set j x
  | _, _ => l

theorem LtE.asymm {a b : PE} (h : LtE a b) : ¬ LtE b a := fun k => LtE.irrefl a (h.trans k)
theorem le_trans' {a b c : PE} (h : ¬ LtE b a) (k : ¬ LtE c b) : ¬ LtE c a := by unfold LtE at *; omega

theorem swapL_eq {l : List PE} {i j : Nat} {x y : PE} (hi : l[i]? = some x) (hj : l[j]? = some y) : swapL l i j = (l.set i y).set j x := by unfold swapL; rw [hi, hj]
theorem swapL_length (l : List PE) (i j : Nat) : (swapL l i j).length = l.length := by
  unfold swapL; split <;> simp
theorem swapL_perm (l : List PE) (i j : Nat) : (swapL l i j).Perm l := by
  unfold swapL
  split
  · rename_i x y hi hj
    obtain ⟨h1, rfl⟩ := List.getElem?_eq_some_iff.1 hi
    obtain ⟨h2, rfl⟩ := List.getElem?_eq_some_iff.1 hj
    exact List.set_set_perm h1 h2
  · exact List.Perm.refl _
theorem swapL_get {l : List PE} {i j : Nat} {x y : PE} (hi : l[i]? = some x) (hj : l[j]? = some y) (k : Nat) : (swapL l i j)[k]? = if k = j then some x else if k = i then some y else l[k]? := by
  have h1 := (List.getElem?_eq_some_iff.1 hi).1
  have h2 := (List.getElem?_eq_some_iff.1 hj).1
  rw [swapL_eq hi hj, List.getElem?_set, List.getElem?_set]
  by_cases e1 : j = k
  · subst e1; simp [h2]
  · have e1' : ¬ k = j := fun h => e1 h.symm
    rw [if_neg e1, if_neg e1']
    by_cases e2 : i = k
    · subst e2; simp [h1]
    · have e2' : ¬ k = i := fun h => e2 h.symm
      rw [if_neg e2, if_neg e2']

theorem up_step {l : List PE} {j : Nat} (h : UpInv l j) (hj : 0 < j) (hjl : j < l.length) {x y : PE} (hx : l[j]? = some x) (hy : l[(j - 1) / 2]? = some y) (hlt : LtE x y) : UpInv (swapL l ((j - 1) / 2) j) ((j - 1) / 2) := by
  have hp : (j - 1) / 2 < j := by omega
  have G := fun k => swapL_get hy hx k
  constructor
  · intro i h0 hil hne a b ha hb
    rw [swapL_length] at hil
    rw [G] at ha hb
    by_cases e1 : i = j
    · rw [if_pos e1] at ha; cases ha
      rw [e1, if_neg (by omega), if_pos rfl] at hb; cases hb
      exact hlt.asymm
    · rw [if_neg e1, if_neg hne] at ha
      by_cases e2 : (i - 1) / 2 = j
      · rw [if_pos e2] at hb; cases hb
        exact h.2 i h0 hil e2 hj a _ ha hy
      · rw [if_neg e2] at hb
        by_cases e3 : (i - 1) / 2 = (j - 1) / 2
        · rw [if_pos e3] at hb; cases hb
          have h3 := h.1 i h0 hil e1 a y ha (by rw [e3]; exact hy)
          unfold LtE at *; omega
        · rw [if_neg e3] at hb
          exact h.1 i h0 hil e1 a b ha hb
  · intro i h0 hil hpi hp0 a b ha hb
    rw [swapL_length] at hil
    rw [G] at ha hb
    rw [if_neg (by omega), if_neg (by omega)] at hb
    have h4 := h.1 ((j - 1) / 2) hp0 (by omega) (by omega) y b hy hb
    by_cases e1 : i = j
    · rw [if_pos e1] at ha; cases ha
      exact h4
    · rw [if_neg e1, if_neg (by omega)] at ha
      have h3 := h.1 i h0 hil e1 a y ha (by rw [hpi]; exact hy)
      unfold LtE at *; omega
theorem up_end {l : List PE} {j : Nat} (h : UpInv l j) (he : j = 0 ∨ NotLt l j ((j - 1) / 2)) : HeapN l l.length := by
  intro i h0 hi
  by_cases e : i = j
  · subst e
    rcases he with he | he
    · omega
    · exact he
  · exact h.1 i h0 hi e
theorem up_start {l : List PE} (h : HeapN l l.length) (e : PE) : UpInv (l ++ [e]) l.length := by
  constructor
  · intro i h0 hi hne a b ha hb
    simp at hi
    rw [List.getElem?_append_left (by omega)] at ha hb
    exact h i h0 (by omega) a b ha hb
  · intro i h0 hi hp
    simp at hi
    omega

theorem down_step {l : List PE} {n i j : Nat} (h : DownInv l n i) (hn : n ≤ l.length) (hj0 : 0 < j) (hjn : j < n) (hpj : (j - 1) / 2 = i) {x y : PE} (hx : l[i]? = some x) (hy : l[j]? = some y) (hlt : LtE y x)
    (hmin : ∀ k z, 0 < k → k < n → (k - 1) / 2 = i → l[k]? = some z → ¬ LtE z y) : DownInv (swapL l i j) n j := by
  have hij : i < j := by omega
  have G := fun k => swapL_get hx hy k
  constructor
  · intro k h0 hk hne a b ha hb
    rw [G] at ha hb
    rw [if_neg hne] at hb
    by_cases e1 : k = j
    · rw [if_pos e1] at ha; cases ha
      rw [if_pos (by rw [e1]; exact hpj)] at hb; cases hb
      exact hlt.asymm
    · rw [if_neg e1] at ha
      by_cases e2 : k = i
      · rw [if_pos e2] at ha; cases ha
        rw [if_neg (by omega)] at hb
        exact h.2 j hj0 hjn hpj (by omega) y b hy (by rw [← e2]; exact hb)
      · rw [if_neg e2] at ha
        by_cases e3 : (k - 1) / 2 = i
        · rw [if_pos e3] at hb; cases hb
          exact hmin k a h0 hk e3 ha
        · rw [if_neg e3] at hb
          exact h.1 k h0 hk e3 a b ha hb
  · intro k h0 hk hp hjp a b ha hb
    rw [G] at ha hb
    rw [hpj, if_neg (by omega), if_pos rfl] at hb; cases hb
    rw [if_neg (by omega), if_neg (by omega)] at ha
    exact h.1 k h0 hk (by omega) a y ha (by rw [hp]; exact hy)
theorem down_end {l : List PE} {n i : Nat} (h : DownInv l n i) (he : ∀ k, 0 < k → k < n → (k - 1) / 2 = i → NotLt l k i) : HeapN l n := by
  intro k h0 hk
  by_cases e : (k - 1) / 2 = i
  · rw [e]; exact he k h0 hk e
  · exact h.1 k h0 hk e
theorem down_start {l : List PE} {n : Nat} (h : HeapN l l.length) (hn : n + 1 = l.length) : DownInv (swapL l 0 n) n 0 := by
  obtain ⟨x, hx⟩ : ∃ x, l[0]? = some x := ⟨l[0], by simp⟩
  obtain ⟨y, hy⟩ : ∃ y, l[n]? = some y := ⟨l[n], by simp⟩
  constructor
  · intro k h0 hk hne a b ha hb
    rw [swapL_get hx hy, if_neg (by omega), if_neg (by omega)] at ha hb
    exact h k h0 (by omega) a b ha hb
  · intro k h0 hk hp h1
    omega
theorem heap_min {l : List PE} (h : HeapN l l.length) {x : PE} (hx : l[0]? = some x) : ∀ (i : Nat) (y : PE), l[i]? = some y → ¬ LtE y x := by
  intro i
  induction i using Nat.strongRecOn with
  | _ i ih =>
    intro y hy
    by_cases h0 : i = 0
    · subst h0; rw [hx] at hy; cases hy; exact LtE.irrefl _
    · have hl := (List.getElem?_eq_some_iff.1 hy).1
      obtain ⟨z, hz⟩ : ∃ z, l[(i - 1) / 2]? = some z := ⟨l[(i - 1) / 2]'(by omega), by simp⟩
      exact le_trans' (ih _ (by omega) z hz) (h i (by omega) hl y z hy hz)

/-- In order. -/
def InOrder (l : List PE) : Prop := l.Pairwise fun a b => ¬ LtE b a
theorem putK_spec' (es : List PE) (e : PE) (hs : InOrder es) : ∀ m, m ≤ es.length → (∀ j d, putK es e m ≤ j → j < m → es[j]? = some d → LtE e d) ∧ (∀ d, 0 < putK es e m → es[putK es e m - 1]? = some d → ¬ LtE e d) := by
  intro m
  induction m with
  | zero => intro _; exact ⟨fun j d _ h => by omega, fun d h => by simp [putK] at h⟩
  | succ m ih =>
    intro hm
    obtain ⟨d0, hd0⟩ : ∃ d, es[m]? = some d := ⟨es[m], by simp⟩
    have hk : putK es e (m + 1) = if ltE e d0 = true then putK es e m else m + 1 := by
      conv => lhs; unfold putK
      rw [hd0]
    rw [hk]
    by_cases h : ltE e d0 = true
    · rw [if_pos h]
      obtain ⟨h1, h2⟩ := ih (by omega)
      refine ⟨fun j d hj hjm hd => ?_, h2⟩
      by_cases hjm' : j = m
      · subst hjm'; rw [hd0] at hd; cases hd; exact (ltE_iff _ _).1 h
      · exact h1 j d hj (by omega) hd
    · rw [if_neg h]
      refine ⟨fun j d hj hjm hd => by omega, fun d _ hd => ?_⟩
      rw [Nat.add_sub_cancel, hd0] at hd; cases hd
      exact fun hh => h ((ltE_iff _ _).2 hh)
theorem putE_perm (es : List PE) (e : PE) : (putE es e).Perm (e :: es) := by
  unfold putE
  have := List.take_append_drop (putK es e es.length) es
  conv => rhs; rw [← this]
  exact List.perm_middle
theorem putE_order {es : List PE} (e : PE) (hs : InOrder es) : InOrder (putE es e) := by
  obtain ⟨h1, h2⟩ := putK_spec' es e hs es.length (Nat.le_refl _)
  have hk := putK_le es e es.length
  unfold putE
  generalize putK es e es.length = k at *
  unfold InOrder at *
  rw [List.pairwise_append]
  have hlow : ∀ a ∈ es.take k, ¬ LtE e a := by
    intro a ha
    obtain ⟨i, hi⟩ := List.getElem?_of_mem ha
    rw [List.getElem?_take] at hi
    split at hi
    · rename_i hik0
      have hil := (List.getElem?_eq_some_iff.1 hi).1
      obtain ⟨d, hd⟩ : ∃ d, es[k - 1]? = some d := ⟨es[k - 1]'(by omega), by simp⟩
      have h3 := h2 d (by omega) hd
      by_cases hik : i = k - 1
      · subst hik
        rw [hi] at hd; cases hd
        exact h3
      · have := List.pairwise_iff_getElem.1 hs i (k - 1) (by omega) (by omega) (by omega)
        rw [(List.getElem?_eq_some_iff.1 hd).2, (List.getElem?_eq_some_iff.1 hi).2] at this
        unfold LtE at *; omega
    · cases hi
  refine ⟨hs.sublist (List.take_sublist _ _), List.pairwise_cons.2 ⟨fun b hb => ?_, hs.sublist (List.drop_sublist _ _)⟩, fun a ha b hb => ?_⟩
  · obtain ⟨i, hi, rfl⟩ := List.getElem_of_mem hb
    simp at hi
    have h4 := h1 (k + i) ((es.drop k)[i]) (by omega) (by omega) (by simp)
    exact h4.asymm
  · rcases List.mem_cons.1 hb with rfl | hb
    · intro hh; exact hlow a ha hh
    · obtain ⟨i, hi, rfl⟩ := List.getElem_of_mem ha
      obtain ⟨j, hj, rfl⟩ := List.getElem_of_mem hb
      simp at hi hj
      have := List.pairwise_iff_getElem.1 hs i (k + j) (by omega) (by omega) (by omega)
      simpa using this
/-- Row by row: what comes out of a heap is what stands first in order. -/
theorem heap_first {l F : List PE} (h : HeapN l l.length) (hp : l.Perm F) (hs : InOrder F) {x y : PE} (hx : l[0]? = some x) (hy : F[0]? = some y) : x = y := by
  have hyl : y ∈ l := hp.mem_iff.2 (List.mem_of_getElem? hy)
  have hxF : x ∈ F := hp.mem_iff.1 (List.mem_of_getElem? hx)
  obtain ⟨i, hi⟩ := List.getElem?_of_mem hyl
  have h1 := heap_min h hx i y hi
  obtain ⟨j, hj⟩ := List.getElem?_of_mem hxF
  have h2 : ¬ LtE x y := by
    by_cases h0 : j = 0
    · subst h0; rw [hy] at hj; cases hj; exact LtE.irrefl _
    · have := List.pairwise_iff_getElem.1 hs 0 j (List.getElem?_eq_some_iff.1 hy).1 (List.getElem?_eq_some_iff.1 hj).1 (by omega)
      rw [(List.getElem?_eq_some_iff.1 hy).2, (List.getElem?_eq_some_iff.1 hj).2] at this
      exact this
  rcases LtE.or h1 with h3 | h3
  · exact h3.symm
  · exact absurd h3 h2
end Go.Proofs.Ytglhdoibglafbaa

/- Walks of queue's compare, and of entries' Len, Less, Swap. -/
namespace Go.Proofs.Ytglhdoibglafbaa
open Go Go.RowKit
set_option maxRecDepth 100000
set_option linter.unusedVariables false

theorem EI_entry : EI Try.prog 88 39 (.agg #[.int .i64 0, .int .i64 0]) 2 16 := ⟨Try.underlying88, by kernel_rfl, rfl, by decide, by decide⟩
theorem compareQ (a b c d : Int) (w : World) :
    Calls Try.prog 85 #[.agg #[.int .i64 a, .int .i64 b], .agg #[.int .i64 c, .int .i64 d]] w fun e w' => e = .returned (.int .i64 (cmpE a b c d)) ∧ Below w.heap.size w w' := by
  have H1 := cmpE_eq a b c d
  obtain ⟨p, hp⟩ : ∃ p : Int, p = (if a < c then (-1 : Int) else if c < a then 1 else 0) := ⟨_, rfl⟩
  obtain ⟨q, hq⟩ : ∃ p : Int, p = (if b < d then (-1 : Int) else if d < b then 1 else 0) := ⟨_, rfl⟩
  rw [← hp, ← hq] at H1
  obtain ⟨r, hr⟩ : ∃ r : Int, r = if p = 0 then q else p := ⟨_, rfl⟩
  have C1 := fun W => cmpInt a c W
  have C2 := fun W => cmpInt b d W
  have C3 := fun g W h0 h1 => or2 p q g W h0 h1
  rw [← hp] at C1
  rw [← hq] at C2
  rw [← hr] at C3 H1
  clear hp hq hr
  rw [← H1]
  clear H1
  go_enter Try.func85, Try.ntmps85
  go_wp2_with fail
  refine wp_tail 10 (by kernel_rfl) (by kernel_rfl) ?_
  simp only [List.take_succ_cons, List.take_zero, List.drop_succ_cons, List.drop_zero]
  repeat (first | still_step | (refine wpStill_step (fun K hK => ?_); go_simp; with_reducible refine ⟨_, flip_w (C1 _), hK _ ?_⟩; clear hK K)  | (refine wpStill_step (fun K hK => ?_); go_simp; with_reducible refine ⟨_, flip_w (C2 _), hK _ ?_⟩; clear hK K))
  refine wpStill_nil ?_
  clear C1 C2
  go_wp2_with fail
  with_reducible refine (C3 _ _ ?_ ?_).mono ?_
  · simp [go_sem]
  · simp [go_sem]
  rintro e w' ⟨rfl, rfl⟩
  clear C3
  go_wp2_with fail
  go_ret
  exact ⟨rfl, by go_grown⟩


theorem lenQ (A : Option Addr) (n c : Nat) (w : World) : Calls Try.prog 158 #[.slice A n c] w fun e w' => e = .returned (.int .i64 (n : Int)) ∧ w = w' := by
  go_enter Try.func158, Try.ntmps158
  go_wp2
  go_ret
  simp

theorem lessQ (es : List PE) (i j : Nat) (x y : PE) (hi : es[i]? = some x) (hj : es[j]? = some y) (A : Option Addr) (c : Nat) (w : World) (hr : Reads w A (pcells es)) (hc : es.length ≤ c) (hm : es.length ≤ 4611686018427387903) :
    Calls Try.prog 159 #[.slice A es.length c, .int .i64 i, .int .i64 j] w fun e w' => e = .returned (.bool (decide (cmpE x.1 x.2 y.1 y.2 < 0))) ∧ Below w.heap.size w w' := by
  obtain ⟨b, o, rfl, hbl, e1, e2⟩ := hr.pair' i x hi
  obtain ⟨b', o', hbo, _, e3, e4⟩ := hr.pair' j y hj
  obtain ⟨rfl, rfl⟩ : b' = b ∧ o' = o := by simpa using hbo.symm
  have h1 := (List.getElem?_eq_some_iff.1 hi).1
  have h2 := (List.getElem?_eq_some_iff.1 hj).1
  have i1 : (i : Int) < (es.length : Int) := by omega
  have i2 : (j : Int) < (es.length : Int) := by omega
  have HC := fun W => compareQ x.1 x.2 y.1 y.2 W
  generalize cmpE x.1 x.2 y.1 y.2 = cp at HC ⊢
  clear hr hbo hi hj
  go_enter Try.func159, Try.ntmps159
  (go_wp2_with fail
   refine wp_quiet_tail 8 (by kernel_rfl) (by kernel_rfl) ?_
   simp only [List.take_succ_cons, List.take_zero, List.drop_succ_cons, List.drop_zero]
   repeat (go_big_quiet_step (fail))
   refine wpQuiet_nil ?_
   intro _ hw'
   obtain ⟨nq, hw''⟩ := hw'
   subst hw'')
  go_wp2_with (go_at_call 85; refine (HC _).mono ?_; rintro e w1 ⟨rfl, hb1⟩)
  go_ret
  exact ⟨rfl, Below.trans (by (repeat (first | with_reducible exact Below.refl _ _ | with_reducible assumption | with_reducible refine below_drewN0 ?_ _ | with_reducible refine Below.drew ?_ | with_reducible refine Below.alloc ?_ ?_ _ | with_reducible refine Below.setCell ?_ ?_ _ | go_size | exact Below.size (by assumption)))) (hb1.mono (by simp))⟩

theorem grown_set (w : World) (g o : Nat) (u : Value) : w.grownBy (w.setCell ⟨g, o, none⟩ u) (some g) :=
  ⟨rfl, rfl, rfl, by simp [World.setCell], fun k hk hne => Below.heap_setCell w ⟨g, o, none⟩ u k (fun e => hne (by simp [e]))⟩
theorem grown_trans {a b c : World} {r : Option Nat} (h : a.grownBy b r) (k : b.grownBy c r) : a.grownBy c r :=
  ⟨k.os.trans h.os, k.tape.trans h.tape, k.output.trans h.output, Nat.le_trans h.size k.size, fun i hi hne => (k.block i (Nat.lt_of_lt_of_le hi h.size) hne).trans (h.block i hi hne)⟩
theorem grown_drew {a b : World} {r : Option Nat} (h : a.grownBy b r) : a.grownBy b.drew r := ⟨h.os, h.tape, h.output, h.size, h.block⟩

theorem swapQ (es : List PE) (i j : Nat) (x y : PE) (hi : es[i]? = some x) (hj : es[j]? = some y) (B g c : Nat) (w : World) (ho : w.ownsRow B 39 2 (.slice (some ⟨g, 0, none⟩) es.length c) es.length (pcells es)) (hm : es.length ≤ 4611686018427387903) :
    Calls Try.prog 160 #[.slice (some ⟨g, 0, none⟩) es.length c, .int .i64 i, .int .i64 j] w fun e w' => e = .returned (.tuple #[]) ∧ w'.ownsRow B 39 2 (.slice (some ⟨g, 0, none⟩) es.length c) es.length (pcells (swapL es i j)) ∧ w.grownBy w' (some g) := by
  have h1 := (List.getElem?_eq_some_iff.1 hi).1
  have h2 := (List.getElem?_eq_some_iff.1 hj).1
  obtain ⟨g', c', hv, hnc, hBg, hgl, hcell, hfz⟩ := own_block ho (by omega)
  obtain ⟨rfl, rfl⟩ : g' = g ∧ c' = c := by simpa using hv.symm
  have i1 : (i : Int) < (es.length : Int) := by omega
  have i2 : (j : Int) < (es.length : Int) := by omega
  have e1 := hcell _ _ (pcells_get es i x hi).1
  have e2 := hcell _ _ (pcells_get es i x hi).2
  have e3 := hcell _ _ (pcells_get es j y hj).1
  have e4 := hcell _ _ (pcells_get es j y hj).2
  rw [Nat.mul_comm] at e1 e2 e3 e4
  have z1 := hfz (i * 2)
  have z2 := hfz (i * 2 + 1)
  have z3 := hfz (j * 2)
  have z4 := hfz (j * 2 + 1)
  have HO := Lib.hid ho
  have HI := Lib.hid hi
  have HJ := Lib.hid hj
  clear ho hi hj hcell hfz hv
  by_cases hij : i = j
  · subst hij
    have hxy : x = y := by have := HI.out; rw [HJ.out] at this; exact (Option.some.inj this).symm
    subst hxy
    go_enter Try.func160, Try.ntmps160
    go_wp2_with fail
    go_region
    all_goals
      go_wp2_with fail
      go_end0
      have ho := own_write (own_write (own_write (own_write HO.out (i * 2) (by rw [pcells_length]; omega) (.int .i64 x.1)) (i * 2 + 1) (by simp [pcells_length]; omega) (.int .i64 x.2)) (i * 2) (by simp [pcells_length]; omega) (.int .i64 x.1)) (i * 2 + 1) (by simp [pcells_length]; omega) (.int .i64 x.2)
      have hx0 : es.set i x = es := by
        apply List.ext_getElem?
        intro k
        rw [List.getElem?_set]
        by_cases e : i = k
        · subst e; rw [HI.out]; simp [h1]
        · rw [if_neg e]
      rw [pcells_set0 _ _ _ _ x.1 HI.out, pcells_set1 _ _ x.1 x.2 x.2 (by simp [h1]), List.set_set, hx0, pcells_set0 _ _ _ _ x.1 HI.out, pcells_set1 _ _ x.1 x.2 x.2 (by simp [h1]), List.set_set, hx0] at ho
      have hsw : swapL es i i = es := by rw [swapL_eq HI.out HI.out, List.set_set]; exact hx0
      refine ⟨rfl, ?_, ?_⟩
      · rw [hsw]; first | exact ho | exact own_far ho (fun _ _ => rfl)
      · exact grown_drew (grown_trans (grown_trans (grown_trans (grown_set _ _ _ _) (grown_set _ _ _ _)) (grown_set _ _ _ _)) (grown_set _ _ _ _))
  · have n1 : ¬ (i * 2 = j * 2) := by omega
    have n2 : ¬ (i * 2 + 1 = j * 2) := by omega
    have n3 : ¬ (i * 2 = j * 2 + 1) := by omega
    have n4 : ¬ (i * 2 + 1 = j * 2 + 1) := by omega
    go_enter Try.func160, Try.ntmps160
    go_wp2_with fail
    go_region
    all_goals
      go_wp2_with fail
      go_end0
      have ho := own_write (own_write (own_write (own_write HO.out (i * 2) (by rw [pcells_length]; omega) (.int .i64 y.1)) (i * 2 + 1) (by simp [pcells_length]; omega) (.int .i64 y.2)) (j * 2) (by simp [pcells_length]; omega) (.int .i64 x.1)) (j * 2 + 1) (by simp [pcells_length]; omega) (.int .i64 x.2)
      rw [pcells_set0 _ _ _ _ y.1 HI.out, pcells_set1 _ _ y.1 x.2 y.2 (by simp [h1]), List.set_set, pcells_set0 _ j y.1 y.2 x.1 (by rw [List.getElem?_set, if_neg hij]; exact HJ.out), pcells_set1 _ j x.1 y.2 x.2 (by simp [h2]), List.set_set] at ho
      refine ⟨rfl, ?_, ?_⟩
      · rw [swapL_eq HI.out HJ.out]; first | exact ho | exact own_far ho (fun _ _ => rfl)
      · exact grown_drew (grown_trans (grown_trans (grown_trans (grown_set _ _ _ _) (grown_set _ _ _ _)) (grown_set _ _ _ _)) (grown_set _ _ _ _))
end Go.Proofs.Ytglhdoibglafbaa

/- copy and clear on a row known whole, at elements of several cells; an own row taken apart and put together (no program in sight). -/
namespace Go.Proofs.Ytglhdoibglafbaa
open Go Go.RowKit
set_option maxRecDepth 100000
set_option linter.unusedVariables false

section
variable {P : Program} {t e : TypeId} {z : Value} {size bytes : Nat}

theorem run_copyN (E : EI P t e z size bytes) (w : World) (ty : TypeId) (g o dLen dCap : Nat) (a : Addr) (sLen sCap : Nat) (cur : List Value) (T : TypeId) (cs : List Value) (k : Nat) (hk : k = Nat.min sLen dLen) (hcs : cs.length = k * size)
    (hg : w.heap[g]? = some (.cells cur.toArray T (0, 0))) (hsrc : ∀ j v, cs[j]? = some v → w.cell? (a.add j) = some v) (hfit : o + cs.length ≤ cur.length) (h1 : ∀ v ∈ cs, v.oneCell' = true) :
    (Builtin.copy_ #[t, t] ty #[.slice (some ⟨g, o, none⟩) dLen dCap, .slice (some a) sLen sCap]).run P w =
      .ok (goInt k) (w.setRow g (cur.take o ++ cs ++ cur.drop (o + cs.length)).toArray) := by
  obtain ⟨i, hi, hz, hsize, hbytes⟩ := info_parts E.hinfo
  have hl := run_loadCells_list (P := P) w a cs hsrc
  have hst := run_storeCells_at P g o T cs 0 cur.toArray w hg (by simpa using hfit) h1
  simp only [Nat.add_zero] at hst
  simp [Builtin.copy_, run_underlying E.ht, Builtin.lenOf, Builtin.firstCells, sizeOf, typeInfo, hi, hsize, ← hk, ← hcs, hl, hst]

theorem wpList_copyN (E : EI P t e z size bytes) {w : World} {ops : Array Oper} {rest : List Oper} {o : Oper} {a : Act} {Q : Exit → Act → World → Prop} (hgd : o.guard = none) (s x : Operand)
    (ho : o.op = .call { callee := .builtin .copy, args := #[s, x], argTypes := #[t, t] })
    (g off dLen dCap : Nat) (ad : Addr) (sLen sCap : Nat) (hs : a.eval s = .slice (some ⟨g, off, none⟩) dLen dCap) (hx : a.eval x = .slice (some ad) sLen sCap) (cur : List Value) (T : TypeId) (cs : List Value) (k : Nat) (hk : k = Nat.min sLen dLen) (hcs : cs.length = k * size)
    (hg : w.heap[g]? = some (.cells cur.toArray T (0, 0))) (hsrc : ∀ j v, cs[j]? = some v → w.cell? (ad.add j) = some v) (hfit : off + cs.length ≤ cur.length) (h1 : ∀ v ∈ cs, v.oneCell' = true)
    (h : ∀ w', w'.heap[g]? = some (.cells (cur.take off ++ cs ++ cur.drop (off + cs.length)).toArray T (0, 0)) → w.grownBy w' (some g) → wpList P ops Q rest (a.put o.dst (goInt k)) w') : wpList P ops Q (o :: rest) a w :=
  wpList_plain hgd fun _ hK => by
    have hrun := run_copyN E w o.type g off dLen dCap ad sLen sCap cur T cs k hk hcs hg hsrc hfit h1
    unfold Oper.wp execOp
    simp only [ho, resolve, invoke, builtin, Sem.run_bind, Sem.run_pure, Result.andThen_ok, List.map_toArray, List.map_cons, List.map_nil, hs, hx, hrun]
    exact hK _ _ (h _ (setRow_heap w g cur.toArray _ T _ hg) ⟨rfl, rfl, rfl, by simp [World.setRow], fun k hk hne => setRow_other w g k _ (fun e => hne (by simp [e]))⟩)

theorem step_copyN (E : EI P t e z size bytes) {w : World} {ops : Array Oper} {o : Oper} {a : Act} {K : Act → World → Prop} {Q : Exit → Act → World → Prop} {F : Prop} (hgd : o.guard = none) (s x : Operand)
    (ho : o.op = .call { callee := .builtin .copy, args := #[s, x], argTypes := #[t, t] })
    (g off dLen dCap : Nat) (ad : Addr) (sLen sCap : Nat) (hs : a.eval s = .slice (some ⟨g, off, none⟩) dLen dCap) (hx : a.eval x = .slice (some ad) sLen sCap) (cur : List Value) (T : TypeId) (cs : List Value) (k : Nat) (hk : k = Nat.min sLen dLen) (hcs : cs.length = k * size)
    (hg : w.heap[g]? = some (.cells cur.toArray T (0, 0))) (hsrc : ∀ j v, cs[j]? = some v → w.cell? (ad.add j) = some v) (hfit : off + cs.length ≤ cur.length) (h1 : ∀ v ∈ cs, v.oneCell' = true)
    (h : ∀ w', w'.heap[g]? = some (.cells (cur.take off ++ cs ++ cur.drop (off + cs.length)).toArray T (0, 0)) → w.grownBy w' (some g) → K (a.put o.dst (goInt k)) w') :
    if Region.wanted o (yielded ops a.tmps) = true then Oper.wp P o a w K Q else F := by
  have hw : Region.wanted o (yielded ops a.tmps) = true := by simp [Region.wanted, hgd]
  rw [if_pos hw]
  have hrun := run_copyN E w o.type g off dLen dCap ad sLen sCap cur T cs k hk hcs hg hsrc hfit h1
  unfold Oper.wp execOp
  simp only [ho, resolve, invoke, builtin, Sem.run_bind, Sem.run_pure, Result.andThen_ok, List.map_toArray, List.map_cons, List.map_nil, hs, hx, hrun]
  exact h _ (setRow_heap w g cur.toArray _ T _ hg) ⟨rfl, rfl, rfl, by simp [World.setRow], fun k hk hne => setRow_other w g k _ (fun e => hne (by simp [e]))⟩

theorem step_room (E : EI P t e z size bytes) {w : World} {ops : Array Oper} {o : Oper} {a : Act} {K : Act → World → Prop} {Q : Exit → Act → World → Prop} {F : Prop} (hgd : o.guard = none) (s x : Operand)
    (ho : o.op = .call { callee := .builtin .append, args := #[s, x], argTypes := #[t, t] })
    (g : Nat) (cur : List Value) (n cap : Nat) (hs : a.eval s = .slice (some ⟨g, 0, none⟩) n cap) (hg : w.heap[g]? = some (.cells cur.toArray e (0, 0))) (hcap : cur.length = cap * size)
    (A : Option Addr) (m c : Nat) (news : List Value) (hx : a.eval x = .slice A m c) (hr : Reads w A news) (hl : news.length = m * size) (h1 : ∀ u ∈ news, u.oneCell' = true) (hroom : n + m ≤ cap)
    (h : ∀ w', w'.heap[g]? = some (.cells (cur.take (n * size) ++ news ++ cur.drop ((n + m) * size)).toArray e (0, 0)) → w.grownBy w' (some g) → K (a.put o.dst (.slice (some ⟨g, 0, none⟩) (n + m) cap)) w') :
    if Region.wanted o (yielded ops a.tmps) = true then Oper.wp P o a w K Q else F := by
  have hw : Region.wanted o (yielded ops a.tmps) = true := by simp [Region.wanted, hgd]
  rw [if_pos hw]
  obtain ⟨w', hrun, h2, h3⟩ := run_room E w o.type g cur n cap hg hcap A m c news hr hl h1 hroom
  unfold Oper.wp execOp
  simp only [ho, resolve, invoke, builtin, Sem.run_bind, Sem.run_pure, Result.andThen_ok, List.map_toArray, List.map_cons, List.map_nil, hs, hx, hrun]
  exact h w' h2 h3
end

/-- An own row that is not empty, taken apart. -/
theorem own_open {w : World} {base e size : Nat} {v : Value} {n : Nat} {xs : List Value} (h : w.ownsRow base e size v n xs) (hn : 0 < n) :
    ∃ (g c : Nat) (cur : List Value), v = .slice (some ⟨g, 0, none⟩) n c ∧ base ≤ g ∧ g < w.heap.size ∧ w.heap[g]? = some (.cells cur.toArray e (0, 0)) ∧ n ≤ c ∧ c ≤ maxLen ∧ cur.length = c * size ∧ cur.take (n * size) = xs := by
  obtain ⟨h0, h2⟩ := h
  rcases h2 with ⟨rfl, rfl⟩ | ⟨g, cap, cur, rfl, hg, hh, hnc, hm, hsz, htk⟩
  · omega
  · refine ⟨g, cap, cur.toList, rfl, hg, ?_, by simpa using hh, hnc, hm, by simpa using hsz, htk⟩
    rcases Nat.lt_or_ge g w.heap.size with hl | hl
    · exact hl
    · rw [Array.getElem?_eq_none hl] at hh; cases hh
/-- .. and put together. -/
theorem own_shut {w : World} {base e size g n c : Nat} {cur xs : List Value} (hb : base ≤ g) (hg : w.heap[g]? = some (.cells cur.toArray e (0, 0))) (hnc : n ≤ c) (hm : c ≤ maxLen) (hl : cur.length = c * size) (hx : cur.take (n * size) = xs) :
    w.ownsRow base e size (.slice (some ⟨g, 0, none⟩) n c) n xs := by
  refine ⟨?_, .inr ⟨g, c, cur.toArray, rfl, hb, hg, hnc, hm, by simpa using hl, by simpa using hx⟩⟩
  have : n * size ≤ c * size := Nat.mul_le_mul_right _ hnc
  rw [← hx, List.length_take]
  omega
end Go.Proofs.Ytglhdoibglafbaa

/- Walks of heap's up and down over a queue's entries. -/
namespace Go.Proofs.Ytglhdoibglafbaa
open Go Go.RowKit
set_option maxRecDepth 100000
set_option linter.unusedVariables false

/-- A queue at block q: a heap's row of the call's own. -/
structure QAt (w : World) (q B : Nat) (v : Value) (es : List PE) : Prop where
  blk : w.heap[q]? = some (.cells #[v] 90 (0, 0))
  own : w.ownsRow B 39 2 v es.length (pcells es)
  hB : q < B
/-- Nothing but the queue, and its row, has turned. -/
structure Touch (q : Nat) (v : Value) (w w' : World) : Prop where
  os : w'.os = w.os
  tape : w'.tape = w.tape
  output : w'.output = w.output
  size : w.heap.size ≤ w'.heap.size
  block : ∀ k, k < w.heap.size → k ≠ q → v.ownBlock ≠ some k → w'.heap[k]? = w.heap[k]?

theorem nil_ptr (nm : String) (k : Nat) (h : nm = "Less" ∨ nm = "Len" ∨ nm = "Swap" ∨ nm = "Push" ∨ nm = "Pop") (a : Addr) (w : World) : (nilAhead 282 92 (.pointer (some a)) nm).run Try.prog w = .ok (some false) w := by
  rcases h with rfl | rfl | rfl | rfl | rfl <;> kernel_rfl
theorem m_push (a : Addr) (w : World) : (method 282 92 (.pointer (some a)) "Push").run Try.prog w = .ok (162, .pointer (some a)) w := by kernel_rfl
theorem m_pop (a : Addr) (w : World) : (method 282 92 (.pointer (some a)) "Pop").run Try.prog w = .ok (161, .pointer (some a)) w := by kernel_rfl
theorem m_less {a : Addr} {v : Value} {w : World} (h : w.cell? a = some v) : (method 282 92 (.pointer (some a)) "Less").run Try.prog w = .ok (159, v) w := by
  have hm : ((Try.prog.info? 92).bind fun i => (i.methods.find? (·.name == "Less")).map fun m => (m.path, m.func)) = some (#[], some (159, false)) := by kernel_rfl
  obtain ⟨i, hi, hm1⟩ := Option.bind_eq_some_iff.1 hm
  obtain ⟨m, hmm, hm2⟩ := Option.map_eq_some_iff.1 hm1
  simp only [Prod.mk.injEq] at hm2
  obtain ⟨hp, hf⟩ := hm2
  have e : (method 282 92 (.pointer (some a)) "Less") = (do
      let some m := (← typeInfo 92).methods.find? (·.name == "Less") | stuck "invoke: the dynamic type lacks the method"
      let (xt, x) ← follow m.path.toList 92 (.val (.pointer (some a)))
      match m.func with
      | none =>
        match ← x.get xt with
        | .iface t' v' => method 281 t' v' "Less"
        | .nilIface => runtimePanic .nilDeref
        | _ => stuck "method row: interface value expected"
      | some (f, pointerReceiver) =>
        pure (f, ← receiverAt xt x pointerReceiver (if m.path.isEmpty then some (("Less".splitOn ".").getLastD "Less") else none))) := rfl
  have hu := run_underlying (P := Try.prog) Try.underlying92
  have ha : ∀ w0 : World, (isAgg 88).run Try.prog w0 = .ok false w0 := fun w0 => by kernel_rfl
  have hnc : ∀ (s : String) (w0 : World), (Builtin.ssaWrapNilChk_ #[92] 92 #[.pointer (some a), strVal "", strVal s]).run Try.prog w0 = .ok (.pointer (some a)) w0 := fun s w0 => rfl
  have hrec : ∀ s, (receiverAt 92 (.val (.pointer (some a))) false (some s)).run Try.prog w = .ok v w := fun s => by
    unfold receiverAt
    simp [hu, Place.get, hnc, loadVar, ha, asAddr, h, Result.andThen]
  rw [e]
  simp [typeInfo, hi, hmm, hp, hf, follow, hrec, Result.andThen]
theorem m_len {a : Addr} {v : Value} {w : World} (h : w.cell? a = some v) : (method 282 92 (.pointer (some a)) "Len").run Try.prog w = .ok (158, v) w := by
  have hm : ((Try.prog.info? 92).bind fun i => (i.methods.find? (·.name == "Len")).map fun m => (m.path, m.func)) = some (#[], some (158, false)) := by kernel_rfl
  obtain ⟨i, hi, hm1⟩ := Option.bind_eq_some_iff.1 hm
  obtain ⟨m, hmm, hm2⟩ := Option.map_eq_some_iff.1 hm1
  simp only [Prod.mk.injEq] at hm2
  obtain ⟨hp, hf⟩ := hm2
  have e : (method 282 92 (.pointer (some a)) "Len") = (do
      let some m := (← typeInfo 92).methods.find? (·.name == "Len") | stuck "invoke: the dynamic type lacks the method"
      let (xt, x) ← follow m.path.toList 92 (.val (.pointer (some a)))
      match m.func with
      | none =>
        match ← x.get xt with
        | .iface t' v' => method 281 t' v' "Len"
        | .nilIface => runtimePanic .nilDeref
        | _ => stuck "method row: interface value expected"
      | some (f, pointerReceiver) =>
        pure (f, ← receiverAt xt x pointerReceiver (if m.path.isEmpty then some (("Len".splitOn ".").getLastD "Len") else none))) := rfl
  have hu := run_underlying (P := Try.prog) Try.underlying92
  have ha : ∀ w0 : World, (isAgg 88).run Try.prog w0 = .ok false w0 := fun w0 => by kernel_rfl
  have hnc : ∀ (s : String) (w0 : World), (Builtin.ssaWrapNilChk_ #[92] 92 #[.pointer (some a), strVal "", strVal s]).run Try.prog w0 = .ok (.pointer (some a)) w0 := fun s w0 => rfl
  have hrec : ∀ s, (receiverAt 92 (.val (.pointer (some a))) false (some s)).run Try.prog w = .ok v w := fun s => by
    unfold receiverAt
    simp [hu, Place.get, hnc, loadVar, ha, asAddr, h, Result.andThen]
  rw [e]
  simp [typeInfo, hi, hmm, hp, hf, follow, hrec, Result.andThen]
theorem m_swap {a : Addr} {v : Value} {w : World} (h : w.cell? a = some v) : (method 282 92 (.pointer (some a)) "Swap").run Try.prog w = .ok (160, v) w := by
  have hm : ((Try.prog.info? 92).bind fun i => (i.methods.find? (·.name == "Swap")).map fun m => (m.path, m.func)) = some (#[], some (160, false)) := by kernel_rfl
  obtain ⟨i, hi, hm1⟩ := Option.bind_eq_some_iff.1 hm
  obtain ⟨m, hmm, hm2⟩ := Option.map_eq_some_iff.1 hm1
  simp only [Prod.mk.injEq] at hm2
  obtain ⟨hp, hf⟩ := hm2
  have e : (method 282 92 (.pointer (some a)) "Swap") = (do
      let some m := (← typeInfo 92).methods.find? (·.name == "Swap") | stuck "invoke: the dynamic type lacks the method"
      let (xt, x) ← follow m.path.toList 92 (.val (.pointer (some a)))
      match m.func with
      | none =>
        match ← x.get xt with
        | .iface t' v' => method 281 t' v' "Swap"
        | .nilIface => runtimePanic .nilDeref
        | _ => stuck "method row: interface value expected"
      | some (f, pointerReceiver) =>
        pure (f, ← receiverAt xt x pointerReceiver (if m.path.isEmpty then some (("Swap".splitOn ".").getLastD "Swap") else none))) := rfl
  have hu := run_underlying (P := Try.prog) Try.underlying92
  have ha : ∀ w0 : World, (isAgg 88).run Try.prog w0 = .ok false w0 := fun w0 => by kernel_rfl
  have hnc : ∀ (s : String) (w0 : World), (Builtin.ssaWrapNilChk_ #[92] 92 #[.pointer (some a), strVal "", strVal s]).run Try.prog w0 = .ok (.pointer (some a)) w0 := fun s w0 => rfl
  have hrec : ∀ s, (receiverAt 92 (.val (.pointer (some a))) false (some s)).run Try.prog w = .ok v w := fun s => by
    unfold receiverAt
    simp [hu, Place.get, hnc, loadVar, ha, asAddr, h, Result.andThen]
  rw [e]
  simp [typeInfo, hi, hmm, hp, hf, follow, hrec, Result.andThen]

theorem Touch.refl (q : Nat) (v : Value) (w : World) : Touch q v w w := ⟨rfl, rfl, rfl, Nat.le_refl _, fun _ _ _ _ => rfl⟩
theorem Touch.trans {q : Nat} {v : Value} {a b c : World} (h : Touch q v a b) (k : Touch q v b c) : Touch q v a c :=
  ⟨k.os.trans h.os, k.tape.trans h.tape, k.output.trans h.output, Nat.le_trans h.size k.size, fun i hi h1 h2 => (k.block i (Nat.lt_of_lt_of_le hi h.size) h1 h2).trans (h.block i hi h1 h2)⟩
theorem Touch.below {q : Nat} {v : Value} {a b c : World} (h : Touch q v a b) (k : Below b.heap.size b c) : Touch q v a c :=
  h.trans ⟨k.os, k.tape, k.output, k.size, fun i hi _ _ => k.block i hi⟩
theorem Touch.grown {q : Nat} {v : Value} {a b c : World} (h : Touch q v a b) (k : b.grownBy c v.ownBlock) : Touch q v a c :=
  h.trans ⟨k.os, k.tape, k.output, k.size, fun i hi _ h2 => k.block i hi (fun e => h2 e.symm)⟩

theorem QAt.cell {w : World} {q B : Nat} {v : Value} {es : List PE} (h : QAt w q B v es) : w.cell? ⟨q, 0, none⟩ = some v := blkc0 h.blk 0 v rfl
theorem QAt.frozen {w : World} {q B : Nat} {v : Value} {es : List PE} (h : QAt w q B v es) : w.frozen? ⟨q, 0, none⟩ = false := blkf0 h.blk 0
theorem QAt.lt {w : World} {q B : Nat} {v : Value} {es : List PE} (h : QAt w q B v es) : q < w.heap.size := heap_lt0 h.blk
theorem QAt.below {w w' : World} {q B : Nat} {v : Value} {es : List PE} (h : QAt w q B v es) (hb : Below w.heap.size w w') : QAt w' q B v es := ⟨(hb.block q h.lt).trans h.blk, own_below0 h.own hb, h.hB⟩
theorem QAt.swap {w w' : World} {q B g n c : Nat} {es es' : List PE} (h : QAt w q B (.slice (some ⟨g, 0, none⟩) n c) es) (ho : w'.ownsRow B 39 2 (.slice (some ⟨g, 0, none⟩) n c) es'.length (pcells es')) (hg : w.grownBy w' (some g)) (hgq : g ≠ q) : QAt w' q B (.slice (some ⟨g, 0, none⟩) n c) es' :=
  ⟨(hg.block q h.lt (fun e => hgq (by simpa using e.symm))).trans h.blk, ho, h.hB⟩

def UpPost (q B : Nat) (v : Value) (es : List PE) (w : World) (e : Ending) (w' : World) : Prop :=
  ∃ es' : List PE, e = .returned (.tuple #[]) ∧ QAt w' q B v es' ∧ es'.Perm es ∧ HeapN es' es'.length ∧ Touch q v w w'

set_option maxHeartbeats 2000000 in
theorem up_any (q B : Nat) (v : Value) (es : List PE) (j : Nat) (w : World) (hq : QAt w q B v es) (hu : UpInv es j) (hj : j < es.length) (hm : es.length ≤ 4611686018427387903) :
    Calls Try.prog 92 #[.iface 92 (.pointer (some ⟨q, 0, none⟩)), .int .i64 j] w (UpPost q B v es w) := by
  obtain ⟨g, c, cur, rfl, hBg, hgl, _, hnc, _, _, _⟩ := own_open hq.own (by omega)
  have hgq : g ≠ q := by have := hq.hB; omega
  obtain ⟨n, hn⟩ : ∃ n, n = es.length := ⟨_, rfl⟩
  rw [← hn] at hq hnc ⊢
  have HQ := Lib.hid hq
  have HU := Lib.hid hu
  have HN := Lib.hid hn
  have hjn : j < n := by omega
  have hmn : n ≤ 4611686018427387903 := by omega
  clear hq hu hn hj hm hgl
  go_enter Try.func92, Try.ntmps92
  go_wp2_with fail
  go_loopw [1] (fun i wr => ∃ (k : Nat) (es' : List PE), i = .int .i64 k ∧ k < n ∧ Hid (QAt wr q B (.slice (some ⟨g, 0, none⟩) n c) es') ∧ Hid (es'.Perm es) ∧ Hid (UpInv es' k) ∧ Touch q (.slice (some ⟨g, 0, none⟩) n c) w wr) (fun i _ => (intOf i).toNat)
  case atStart => exact ⟨j, es, rfl, hjn, HQ, List.Perm.refl _, HU, Touch.refl _ _ _⟩
  case round =>
    clear HQ HU hjn
    obtain ⟨k, es', rfl, hk, hQ, hP, hU, hT⟩ := hrel
    have hl : es'.length = n := by rw [hP.out.length_eq]; exact HN.out.symm
    have HL := Lib.hid hl
    clear hl
    have hc := hQ.out.cell
    have hnil := nil_ptr "Less" 0 (.inl rfl) ⟨q, 0, none⟩ wr
    have hLs := m_less hc
    by_cases h0 : k = 0
    · subst h0
      go_wp2_with fail
      go_end0
      exact ⟨es', rfl, hQ.out, hP.out, up_end hU.out (.inl rfl), hT⟩
    · obtain ⟨p, hp, hp2⟩ : ∃ p : Nat, ((k : Int) - 1) / 2 = p ∧ p = (k - 1) / 2 := ⟨(k - 1) / 2, by omega, rfl⟩
      have hpk : ((p : Int) == (k : Int)) = false := by simp; omega
      have hpk' : ¬ ((p : Int) = (k : Int)) := by omega
      have hk1 : (0 : Int) ≤ (k : Int) - 1 := by omega
      obtain ⟨x, hx⟩ : ∃ x, es'[k]? = some x := ⟨es'[k]'(by rw [HL.out]; exact hk), by simp⟩
      obtain ⟨y, hy⟩ : ∃ y, es'[p]? = some y := ⟨es'[p]'(by rw [HL.out]; omega), by simp⟩
      have hrd := (own_reads1 (hQ.out.own)).1
      have HLQ := fun W hr => lessQ es' k p x y hx hy (some ⟨g, 0, none⟩) c W hr (by rw [HL.out]; exact hnc) (by rw [HL.out]; exact hmn)
      have HSW := fun W ho => swapQ es' p k y x hy hx B g c W ho (by rw [HL.out]; exact hmn)
      rw [HL.out] at HLQ HSW
      have HX := Lib.hid hx
      have HY := Lib.hid hy
      have HP2 := Lib.hid hp2
      clear hx hy hp2
      by_cases hlt : cmpE x.1 x.2 y.1 y.2 < 0
      · simp only [hlt, decide_true] at HLQ
        have HLT : Hid (LtE x y) := (cmpE_lt _ _ _ _).1 hlt
        clear hlt
        go_wp2_with (first
          | (go_at_call 159; go_loud (refine (HLQ _ hrd).mono ?_; rintro e w1 ⟨rfl, hb1⟩; have hQ1 := Lib.hid (hQ.out.below hb1); have hSm := m_swap hQ1.out.cell; have hnil2 := nil_ptr "Swap" 0 (.inr (.inr (.inl rfl))) ⟨q, 0, none⟩ w1; clear hc hLs hnil))
          | (go_at_call 160; go_loud (refine (HSW _ ?_).mono ?_; (have h9 := hQ1.out.own; rw [HL.out] at h9; exact h9); rintro e w2 ⟨rfl, ho2, hg2⟩)))
        go_roundw
        case rel =>
          refine ⟨p, swapL es' p k, rfl, by omega, QAt.swap hQ1.out (by rw [swapL_length, HL.out]; exact ho2) hg2 hgq, (swapL_perm _ _ _).trans hP.out, ?_, (hT.below hb1).grown hg2⟩
          have h9 := up_step hU.out (by omega) (by rw [HL.out]; exact hk) HX.out (by rw [← HP2.out]; exact HY.out) HLT.out
          rw [← HP2.out] at h9
          exact h9
        case measure => simp [intOf]; omega
      · simp only [hlt, decide_false] at HLQ
        have HLT : Hid (¬ LtE x y) := fun h => hlt ((cmpE_lt _ _ _ _).2 h)
        clear hlt
        go_wp2_with (first
          | (go_at_call 159; go_loud (refine (HLQ _ hrd).mono ?_; rintro e w1 ⟨rfl, hb1⟩)))
        go_end0
        refine ⟨es', rfl, hQ.out.below hb1, hP.out, up_end hU.out (.inr ?_), hT.below hb1⟩
        intro a b ha hb
        rw [HX.out] at ha; cases ha
        rw [← HP2.out, HY.out] at hb; cases hb
        exact HLT.out
end Go.Proofs.Ytglhdoibglafbaa

/- The walk of heap's down over a queue's entries. -/
namespace Go.Proofs.Ytglhdoibglafbaa
open Go Go.RowKit
set_option maxRecDepth 100000
set_option linter.unusedVariables false

def DownPost (q B : Nat) (v : Value) (es : List PE) (m : Nat) (w : World) (e : Ending) (w' : World) : Prop :=
  ∃ (es' : List PE) (b : Bool), e = .returned (.bool b) ∧ QAt w' q B v es' ∧ es'.Perm es ∧ HeapN es' m ∧ (∀ t, m ≤ t → es'[t]? = es[t]?) ∧ Touch q v w w'

theorem swapL_out {l : List PE} {i j t : Nat} (hi : t ≠ i) (hj : t ≠ j) : (swapL l i j)[t]? = l[t]? := by
  unfold swapL
  split
  · rw [List.getElem?_set, if_neg (fun h => hj h.symm), List.getElem?_set, if_neg (fun h => hi h.symm)]
  · rfl

set_option maxHeartbeats 4000000 in
theorem down_any (q B : Nat) (v : Value) (es : List PE) (m : Nat) (w : World) (hq : QAt w q B v es) (hu : DownInv es m 0) (hmn : m < es.length) (hm : es.length ≤ 4000000) :
    Calls Try.prog 93 #[.iface 92 (.pointer (some ⟨q, 0, none⟩)), .int .i64 0, .int .i64 m] w (DownPost q B v es m w) := by
  obtain ⟨g, c, cur, rfl, hBg, hgl, _, hnc, _, _, _⟩ := own_open hq.own (by omega)
  have hgq : g ≠ q := by have := hq.hB; omega
  obtain ⟨n, hn⟩ : ∃ n, n = es.length := ⟨_, rfl⟩
  rw [← hn] at hq hnc ⊢
  have HQ := Lib.hid hq
  have HU := Lib.hid hu
  have HN := Lib.hid hn
  have hmn' : m < n := by omega
  have hm4 : n ≤ 4000000 := by omega
  clear hq hu hn hm hgl hmn
  go_enter Try.func93, Try.ntmps93
  go_wp2_with fail
  go_loopw [7] (fun i wr => ∃ (k : Nat) (es' : List PE), i = .int .i64 k ∧ k < n ∧ Hid (QAt wr q B (.slice (some ⟨g, 0, none⟩) n c) es') ∧ Hid (es'.Perm es) ∧ Hid (DownInv es' m k) ∧ Hid (∀ t, m ≤ t → es'[t]? = es[t]?) ∧ Touch q (.slice (some ⟨g, 0, none⟩) n c) w wr) (fun i _ => n - (intOf i).toNat)
  case atStart => exact ⟨0, es, rfl, by omega, HQ, List.Perm.refl _, HU, fun _ _ => rfl, Touch.refl _ _ _⟩
  case round =>
    clear HQ HU
    obtain ⟨k, es', rfl, hk, hQ, hP, hU, hO, hT⟩ := hrel
    have hl : es'.length = n := by rw [hP.out.length_eq]; exact HN.out.symm
    have HL := Lib.hid hl
    clear hl
    have hc := hQ.out.cell
    have hnil := nil_ptr "Less" 0 (.inl rfl) ⟨q, 0, none⟩ wr
    have hLs := m_less hc
    have hrd := (own_reads1 (hQ.out.own)).1
    have c1 : ((2 * k + 2 : Nat) : Int) = 2 * (k : Int) + 1 + 1 := by omega
    have c2 : ((2 * k + 1 : Nat) : Int) = 2 * (k : Int) + 1 := by omega
    have C1 := Lib.hid c1
    have C2 := Lib.hid c2
    clear c1 c2
    by_cases h1 : 2 * k + 1 < m
    · obtain ⟨x, hx⟩ : ∃ x, es'[k]? = some x := ⟨es'[k]'(by rw [HL.out]; exact hk), by simp⟩
      obtain ⟨y1, hy1⟩ : ∃ y, es'[2 * k + 1]? = some y := ⟨es'[2 * k + 1]'(by rw [HL.out]; omega), by simp⟩
      have HX := Lib.hid hx
      have HY1 := Lib.hid hy1
      clear hx hy1
      have e1 : ¬ ((m : Int) ≤ 2 * (k : Int) + 1) := by omega
      have e1' : 2 * (k : Int) + 1 < (m : Int) := by omega
      have e2 : ¬ (2 * (k : Int) + 1 < 0) := by omega
      by_cases h2 : 2 * k + 2 < m
      · obtain ⟨y2, hy2⟩ : ∃ y, es'[2 * k + 2]? = some y := ⟨es'[2 * k + 2]'(by rw [HL.out]; omega), by simp⟩
        have HY2 := Lib.hid hy2
        clear hy2
        have e3 : 2 * (k : Int) + 1 + 1 < (m : Int) := by omega
        have HL1 := fun W hr => lessQ es' (2 * k + 2) (2 * k + 1) y2 y1 HY2.out HY1.out (some ⟨g, 0, none⟩) c W hr (by rw [HL.out]; exact hnc) (by rw [HL.out]; omega)
        rw [HL.out, C1.out, C2.out] at HL1
        by_cases hl21 : cmpE y2.1 y2.2 y1.1 y1.2 < 0
        · simp only [hl21, decide_true] at HL1
          have HMIN : Hid (∀ kk z, 0 < kk → kk < m → (kk - 1) / 2 = k → es'[kk]? = some z → ¬ LtE z y2) := by
            intro kk z h0 hkm hpk hz
            have hh : LtE y2 y1 := (cmpE_lt _ _ _ _).1 hl21
            have : kk = 2 * k + 1 ∨ kk = 2 * k + 2 := by omega
            rcases this with rfl | rfl
            · rw [HY1.out] at hz; cases hz; exact hh.asymm
            · rw [HY2.out] at hz; cases hz; exact LtE.irrefl _
          clear hl21
          (have HL2 := fun W hr => lessQ es' (2 * k + 2) k y2 x HY2.out HX.out (some ⟨g, 0, none⟩) c W hr (by rw [HL.out]; exact hnc) (by rw [HL.out]; omega)
           have HSW := fun W ho => swapQ es' k (2 * k + 2) x y2 HX.out HY2.out B g c W ho (by rw [HL.out]; omega)
           rw [HL.out, C1.out] at HL2 HSW
           by_cases hlt : cmpE (y2).1 (y2).2 x.1 x.2 < 0
           · simp only [hlt, decide_true] at HL2
             have HLT : Hid (LtE y2 x) := (cmpE_lt _ _ _ _).1 hlt
             clear hlt
             go_wp2_with (first | (go_at_call 159; go_loud ((with_reducible refine (HL1 _ hrd).mono ?_); rintro e w1 ⟨rfl, hb1⟩; have hQ1 := Lib.hid (hQ.out.below hb1); have hT1 := hT.below hb1; have hLs1 := m_less hQ1.out.cell; have hnil1 := nil_ptr "Less" 0 (.inl rfl) ⟨q, 0, none⟩ w1; have hrd1 := hrd.below hb1; clear hc hLs hnil HL1)) | (go_at_call 159; go_loud ((with_reducible refine (HL2 _ hrd1).mono ?_); rintro e w2 ⟨rfl, hb2⟩; have hQ2 := Lib.hid (hQ1.out.below hb2); have hT2 := hT1.below hb2; have hSm := m_swap hQ2.out.cell; have hnil2 := nil_ptr "Swap" 0 (.inr (.inr (.inl rfl))) ⟨q, 0, none⟩ w2; clear hLs1 hnil1 HL2)) | (go_at_call 160; go_loud ((with_reducible refine (HSW _ ?_).mono ?_); (have h9 := hQ2.out.own; rw [HL.out] at h9; exact h9); rintro e w3 ⟨rfl, ho3, hg3⟩)))
             go_roundw
             case rel =>
               refine ⟨(2 * k + 2), swapL es' k (2 * k + 2), by rw [C1.out], by omega, QAt.swap hQ2.out (by rw [swapL_length, HL.out]; exact ho3) hg3 hgq, (swapL_perm _ _ _).trans hP.out, ?_, ?_, hT2.grown hg3⟩
               · exact down_step hU.out (by rw [HL.out]; omega) (by omega) (by omega) (by omega) HX.out HY2.out HLT.out HMIN.out
               · intro t ht
                 rw [swapL_out (by omega) (by omega)]
                 exact hO.out t ht
             case measure => simp [intOf]; omega
           · simp only [hlt, decide_false] at HL2
             have HLT : Hid (¬ LtE y2 x) := fun h => hlt ((cmpE_lt _ _ _ _).2 h)
             clear hlt
             go_wp2_with (first | (go_at_call 159; go_loud ((with_reducible refine (HL1 _ hrd).mono ?_); rintro e w1 ⟨rfl, hb1⟩; have hQ1 := Lib.hid (hQ.out.below hb1); have hT1 := hT.below hb1; have hLs1 := m_less hQ1.out.cell; have hnil1 := nil_ptr "Less" 0 (.inl rfl) ⟨q, 0, none⟩ w1; have hrd1 := hrd.below hb1; clear hc hLs hnil HL1)) | (go_at_call 159; go_loud ((with_reducible refine (HL2 _ hrd1).mono ?_); rintro e w2 ⟨rfl, hb2⟩; have hQ2 := Lib.hid (hQ1.out.below hb2); have hT2 := hT1.below hb2; have hSm := m_swap hQ2.out.cell; have hnil2 := nil_ptr "Swap" 0 (.inr (.inr (.inl rfl))) ⟨q, 0, none⟩ w2; clear hLs1 hnil1 HL2)))
             all_goals
               go_ret
               refine ⟨es', _, rfl, hQ2.out, hP.out, down_end hU.out ?_, hO.out, hT2⟩
               intro kk h0 hkm hpk a b ha hb
               rw [HX.out] at hb; cases hb
               exact le_trans' HLT.out (HMIN.out kk a h0 hkm hpk ha))
        · simp only [hl21, decide_false] at HL1
          have HMIN : Hid (∀ kk z, 0 < kk → kk < m → (kk - 1) / 2 = k → es'[kk]? = some z → ¬ LtE z y1) := by
            intro kk z h0 hkm hpk hz
            have hh : ¬ LtE y2 y1 := fun h => hl21 ((cmpE_lt _ _ _ _).2 h)
            have : kk = 2 * k + 1 ∨ kk = 2 * k + 2 := by omega
            rcases this with rfl | rfl
            · rw [HY1.out] at hz; cases hz; exact LtE.irrefl _
            · rw [HY2.out] at hz; cases hz; exact hh
          clear hl21
          (have HL2 := fun W hr => lessQ es' (2 * k + 1) k y1 x HY1.out HX.out (some ⟨g, 0, none⟩) c W hr (by rw [HL.out]; exact hnc) (by rw [HL.out]; omega)
           have HSW := fun W ho => swapQ es' k (2 * k + 1) x y1 HX.out HY1.out B g c W ho (by rw [HL.out]; omega)
           rw [HL.out, C2.out] at HL2 HSW
           by_cases hlt : cmpE (y1).1 (y1).2 x.1 x.2 < 0
           · simp only [hlt, decide_true] at HL2
             have HLT : Hid (LtE y1 x) := (cmpE_lt _ _ _ _).1 hlt
             clear hlt
             go_wp2_with (first | (go_at_call 159; go_loud ((with_reducible refine (HL1 _ hrd).mono ?_); rintro e w1 ⟨rfl, hb1⟩; have hQ1 := Lib.hid (hQ.out.below hb1); have hT1 := hT.below hb1; have hLs1 := m_less hQ1.out.cell; have hnil1 := nil_ptr "Less" 0 (.inl rfl) ⟨q, 0, none⟩ w1; have hrd1 := hrd.below hb1; clear hc hLs hnil HL1)) | (go_at_call 159; go_loud ((with_reducible refine (HL2 _ hrd1).mono ?_); rintro e w2 ⟨rfl, hb2⟩; have hQ2 := Lib.hid (hQ1.out.below hb2); have hT2 := hT1.below hb2; have hSm := m_swap hQ2.out.cell; have hnil2 := nil_ptr "Swap" 0 (.inr (.inr (.inl rfl))) ⟨q, 0, none⟩ w2; clear hLs1 hnil1 HL2)) | (go_at_call 160; go_loud ((with_reducible refine (HSW _ ?_).mono ?_); (have h9 := hQ2.out.own; rw [HL.out] at h9; exact h9); rintro e w3 ⟨rfl, ho3, hg3⟩)))
             go_roundw
             case rel =>
               refine ⟨(2 * k + 1), swapL es' k (2 * k + 1), by rw [C2.out], by omega, QAt.swap hQ2.out (by rw [swapL_length, HL.out]; exact ho3) hg3 hgq, (swapL_perm _ _ _).trans hP.out, ?_, ?_, hT2.grown hg3⟩
               · exact down_step hU.out (by rw [HL.out]; omega) (by omega) (by omega) (by omega) HX.out HY1.out HLT.out HMIN.out
               · intro t ht
                 rw [swapL_out (by omega) (by omega)]
                 exact hO.out t ht
             case measure => simp [intOf]; omega
           · simp only [hlt, decide_false] at HL2
             have HLT : Hid (¬ LtE y1 x) := fun h => hlt ((cmpE_lt _ _ _ _).2 h)
             clear hlt
             go_wp2_with (first | (go_at_call 159; go_loud ((with_reducible refine (HL1 _ hrd).mono ?_); rintro e w1 ⟨rfl, hb1⟩; have hQ1 := Lib.hid (hQ.out.below hb1); have hT1 := hT.below hb1; have hLs1 := m_less hQ1.out.cell; have hnil1 := nil_ptr "Less" 0 (.inl rfl) ⟨q, 0, none⟩ w1; have hrd1 := hrd.below hb1; clear hc hLs hnil HL1)) | (go_at_call 159; go_loud ((with_reducible refine (HL2 _ hrd1).mono ?_); rintro e w2 ⟨rfl, hb2⟩; have hQ2 := Lib.hid (hQ1.out.below hb2); have hT2 := hT1.below hb2; have hSm := m_swap hQ2.out.cell; have hnil2 := nil_ptr "Swap" 0 (.inr (.inr (.inl rfl))) ⟨q, 0, none⟩ w2; clear hLs1 hnil1 HL2)))
             all_goals
               go_ret
               refine ⟨es', _, rfl, hQ2.out, hP.out, down_end hU.out ?_, hO.out, hT2⟩
               intro kk h0 hkm hpk a b ha hb
               rw [HX.out] at hb; cases hb
               exact le_trans' HLT.out (HMIN.out kk a h0 hkm hpk ha))
      · have e3 : ¬ (2 * (k : Int) + 1 + 1 < (m : Int)) := by omega
        have e3' : (m : Int) ≤ 2 * (k : Int) + 1 + 1 := by omega
        have HMIN : Hid (∀ kk z, 0 < kk → kk < m → (kk - 1) / 2 = k → es'[kk]? = some z → ¬ LtE z y1) := by
          intro kk z h0 hkm hpk hz
          have : kk = 2 * k + 1 := by omega
          subst this
          rw [HY1.out] at hz; cases hz; exact LtE.irrefl _
        have hQ1 := hQ
        have hT1 := hT
        have hLs1 := hLs
        have hnil1 := hnil
        have hrd1 := hrd
        clear hLs hnil
        (have HL2 := fun W hr => lessQ es' (2 * k + 1) k y1 x HY1.out HX.out (some ⟨g, 0, none⟩) c W hr (by rw [HL.out]; exact hnc) (by rw [HL.out]; omega)
         have HSW := fun W ho => swapQ es' k (2 * k + 1) x y1 HX.out HY1.out B g c W ho (by rw [HL.out]; omega)
         rw [HL.out, C2.out] at HL2 HSW
         by_cases hlt : cmpE (y1).1 (y1).2 x.1 x.2 < 0
         · simp only [hlt, decide_true] at HL2
           have HLT : Hid (LtE y1 x) := (cmpE_lt _ _ _ _).1 hlt
           clear hlt
           go_wp2_with (first | fail | (go_at_call 159; go_loud ((with_reducible refine (HL2 _ hrd1).mono ?_); rintro e w2 ⟨rfl, hb2⟩; have hQ2 := Lib.hid (hQ1.out.below hb2); have hT2 := hT1.below hb2; have hSm := m_swap hQ2.out.cell; have hnil2 := nil_ptr "Swap" 0 (.inr (.inr (.inl rfl))) ⟨q, 0, none⟩ w2; clear hLs1 hnil1 HL2)) | (go_at_call 160; go_loud ((with_reducible refine (HSW _ ?_).mono ?_); (have h9 := hQ2.out.own; rw [HL.out] at h9; exact h9); rintro e w3 ⟨rfl, ho3, hg3⟩)))
           go_roundw
           case rel =>
             refine ⟨(2 * k + 1), swapL es' k (2 * k + 1), by rw [C2.out], by omega, QAt.swap hQ2.out (by rw [swapL_length, HL.out]; exact ho3) hg3 hgq, (swapL_perm _ _ _).trans hP.out, ?_, ?_, hT2.grown hg3⟩
             · exact down_step hU.out (by rw [HL.out]; omega) (by omega) (by omega) (by omega) HX.out HY1.out HLT.out HMIN.out
             · intro t ht
               rw [swapL_out (by omega) (by omega)]
               exact hO.out t ht
           case measure => simp [intOf]; omega
         · simp only [hlt, decide_false] at HL2
           have HLT : Hid (¬ LtE y1 x) := fun h => hlt ((cmpE_lt _ _ _ _).2 h)
           clear hlt
           go_wp2_with (first | fail | (go_at_call 159; go_loud ((with_reducible refine (HL2 _ hrd1).mono ?_); rintro e w2 ⟨rfl, hb2⟩; have hQ2 := Lib.hid (hQ1.out.below hb2); have hT2 := hT1.below hb2; have hSm := m_swap hQ2.out.cell; have hnil2 := nil_ptr "Swap" 0 (.inr (.inr (.inl rfl))) ⟨q, 0, none⟩ w2; clear hLs1 hnil1 HL2)))
           all_goals
             go_ret
             refine ⟨es', _, rfl, hQ2.out, hP.out, down_end hU.out ?_, hO.out, hT2⟩
             intro kk h0 hkm hpk a b ha hb
             rw [HX.out] at hb; cases hb
             exact le_trans' HLT.out (HMIN.out kk a h0 hkm hpk ha))
    · have e1 : (m : Int) ≤ 2 * (k : Int) + 1 := by omega
      go_wp2_with fail
      all_goals
        go_ret
        refine ⟨es', _, rfl, hQ.out, hP.out, down_end hU.out ?_, hO.out, hT⟩
        intro kk h0 hkm hpk
        omega
end Go.Proofs.Ytglhdoibglafbaa

/- Walks of entries' Push and Pop, heap's Push and Pop, and of the queue's methods. -/
namespace Go.Proofs.Ytglhdoibglafbaa
open Go Go.RowKit
set_option maxRecDepth 100000
set_option linter.unusedVariables false

theorem reads_new2 (w : World) (o : Obj) (cs : List Value) (t : TypeId) : Reads (((w.alloc o).alloc (.cells cs.toArray t)).drew) (some ⟨w.heap.size + 1, 0, none⟩) cs := by
  have h := reads_new (w.alloc o) cs t
  rw [World.size_alloc] at h
  exact h

theorem Touch.trans' {q : Nat} {v v' : Value} {a b c : World} (h : Touch q v a b) (k : Touch q v' b c) (hv : ∀ g, v'.ownBlock = some g → v.ownBlock = some g ∨ a.heap.size ≤ g) : Touch q v a c :=
  ⟨k.os.trans h.os, k.tape.trans h.tape, k.output.trans h.output, Nat.le_trans h.size k.size, fun i hi h1 h2 => (k.block i (Nat.lt_of_lt_of_le hi h.size) h1 (fun e => by
    rcases hv i e with h9 | h9
    · exact h2 h9
    · omega)).trans (h.block i hi h1 h2)⟩
theorem Touch.setq {q : Nat} {v : Value} {a b : World} (h : Touch q v a b) (o : Nat) (u : Value) : Touch q v a (b.setCell ⟨q, o, none⟩ u) :=
  h.trans ⟨rfl, rfl, rfl, by simp [World.setCell], fun k hk hne _ => Below.heap_setCell _ _ _ _ hne⟩
/-- The row is the same, or a new one. -/
def SameOr (v v' : Value) (w : World) : Prop := ∀ g, v'.ownBlock = some g → v.ownBlock = some g ∨ w.heap.size ≤ g

theorem own_less {w : World} {B e size : Nat} {A : Option Addr} {n m c : Nat} {xs : List Value} (h : w.ownsRow B e size (.slice A n c) n xs) (hm : m ≤ n) (hn : 0 < n) : w.ownsRow B e size (.slice A m c) m (xs.take (m * size)) := by
  obtain ⟨g, c', cur, hv, hb, _, hg, hnc, hcm, hcl, hct⟩ := own_open h hn
  simp only [Value.slice.injEq] at hv
  obtain ⟨rfl, _, rfl⟩ := hv
  refine own_shut hb hg (by omega) hcm hcl ?_
  rw [← hct, List.take_take, Nat.min_eq_left (Nat.mul_le_mul_right _ hm)]

def PushPost (q B : Nat) (v : Value) (es : List PE) (x y : Int) (w : World) (e : Ending) (w' : World) : Prop :=
  ∃ v', e = .returned (.tuple #[]) ∧ QAt w' q B v' (es ++ [(x, y)]) ∧ Touch q v w w' ∧ SameOr v v' w

set_option maxHeartbeats 2000000 in
theorem ePush (q B : Nat) (v : Value) (es : List PE) (x y : Int) (w : World) (hq : QAt w q B v es) (hB : B ≤ w.heap.size) (hm : es.length ≤ 4000000) :
    Calls Try.prog 162 #[.pointer (some ⟨q, 0, none⟩), .iface 39 (.agg #[.int .i64 x, .int .i64 y])] w (PushPost q B v es x y w) := by
  obtain ⟨A, c, rfl, hc, hr⟩ := own_reads0 hq.own
  have hcell := hq.cell
  have hfz := hq.frozen
  have hql := hq.lt
  have HQ := Lib.hid hq
  clear hq hr
  have hta : ∀ w0 : World, (Instr.typeAssert (.iface 39 (.agg #[.int .i64 x, .int .i64 y])) 20 39 true).run Try.prog w0 = .ok (.tuple #[.agg #[.int .i64 x, .int .i64 y], .bool true]) w0 := fun w0 => by kernel_rfl
  go_enter Try.func162, Try.ntmps162
  go_wp2_with fail
  have hnq : w.heap.size ≠ q := by omega
  have hE := blk2 (heap_alloc_new w (Obj.cells #[Value.int .i64 x, Value.int .i64 y] 39))
  have hX := reads_new2 w (Obj.cells #[Value.int .i64 x, Value.int .i64 y] 39) [Value.int .i64 x, Value.int .i64 y] 39
  have HX := Lib.hid hX
  clear hX hE hta
  go_region_law (go_loud (
    refine step_app EI_entry rfl (.tmp 15) (.tmp 17) rfl B (.slice A es.length c) es.length (pcells es) rfl ?_ (some ⟨w.heap.size + 1, 0, none⟩) 1 1 [.int .i64 x, .int .i64 y] rfl ?_ rfl ?_ ?_ ?_ ?_
    · exact own_below0 HQ.out.own (by (repeat (first | with_reducible exact Below.refl _ _ | with_reducible assumption | with_reducible refine below_drewN0 ?_ _ | with_reducible refine Below.drew ?_ | with_reducible refine Below.alloc ?_ ?_ _ | with_reducible refine Below.setCell ?_ ?_ _ | go_size | exact Below.size (by assumption))))
    · exact HX.out
    · simp [Value.oneCell']
    · omega
    · go_size
    intro v2 w2 hown2 hg2 hat2
    obtain ⟨A2, c2, rfl, hc2, _⟩ := own_reads0 hown2
    have hqne : some q ≠ (Value.slice A es.length c).ownBlock := fun hx => by have := (own_lt0 HQ.out.own q hx.symm).1; have := HQ.out.hB; omega
    have hbq : w2.heap[q]? = some (.cells #[.slice A es.length c] 90 (0, 0)) := (hg2.block q (by simp; omega) hqne).trans (heap_old (heap_old HQ.out.blk))
    have hc0 := blkc0 hbq 0 _ rfl
    have hf0 := blkf0 hbq 0
    have HBQ := Lib.hid hbq
    clear hbq))
  all_goals
    go_wp2_with fail
    go_end0
    have hX : Below w.heap.size w (((w.alloc (Obj.cells #[Value.int .i64 x, Value.int .i64 y] 39)).alloc (Obj.cells #[Value.int .i64 x, Value.int .i64 y] 39)).drew) := by (repeat (first | with_reducible exact Below.refl _ _ | with_reducible assumption | with_reducible refine below_drewN0 ?_ _ | with_reducible refine Below.drew ?_ | with_reducible refine Below.alloc ?_ ?_ _ | with_reducible refine Below.setCell ?_ ?_ _ | go_size | exact Below.size (by assumption)))
    refine ⟨_, rfl, ⟨blk_put HBQ.out 0 _, own_set (own_cast hown2 (Nat.le_refl _) (by simp) (by rw [pcells_append]; rfl)) HQ.out.hB _, HQ.out.hB⟩, (((Touch.refl q _ w).below hX).grown hg2).setq 0 _, ?_⟩
    intro g' hg'
    rcases hat2 with h9 | h9
    · exact .inl (h9.symm.trans hg')
    · rw [h9] at hg'
      right
      simp at hg'
      omega

def PopPost (q B : Nat) (v : Value) (es : List PE) (x y : Int) (w : World) (e : Ending) (w' : World) : Prop :=
  ∃ v', e = .returned (.iface 39 (.agg #[.int .i64 x, .int .i64 y])) ∧ QAt w' q B v' es ∧ Touch q v w w' ∧ v'.ownBlock = v.ownBlock

set_option maxHeartbeats 2000000 in
theorem ePop (q B : Nat) (v : Value) (es : List PE) (x y : Int) (w : World) (hq : QAt w q B v (es ++ [(x, y)])) (hm : es.length ≤ 4000000) :
    Calls Try.prog 161 #[.pointer (some ⟨q, 0, none⟩)] w (PopPost q B v es x y w) := by
  obtain ⟨g, c, cur, rfl, hBg, hgl, _, hnc, _, _, _⟩ := own_open hq.own (by simp)
  have hl : (es ++ [(x, y)]).length = es.length + 1 := by simp
  rw [hl] at hq hnc ⊢
  have hcell := hq.cell
  have hfz := hq.frozen
  have hql := hq.lt
  have hgq : g ≠ q := by have := hq.hB; omega
  have ho := hq.own
  rw [hl] at ho
  have hrd := (own_reads1 ho).1
  obtain ⟨b0, o0, hbo, _, e1, e2⟩ := hrd.pair' es.length (x, y) (by simp)
  obtain ⟨rfl, rfl⟩ : b0 = g ∧ o0 = 0 := by simpa using hbo.symm
  rw [Nat.zero_add] at e1 e2
  have HQ := Lib.hid hq
  have HO := Lib.hid (own_less ho (Nat.le_succ es.length) (by omega))
  have i1 : ((es.length + 1 : Nat) : Int) - 1 = (es.length : Int) := by omega
  have i2 : (es.length : Int) < (es.length : Int) + 1 := by omega
  have i3 : (es.length : Int) ≤ (c : Int) := by omega
  clear hq ho hrd hbo hl
  go_enter Try.func161, Try.ntmps161
  go_wp2_with fail
  go_ret
  have ht : (pcells (es ++ [(x, y)])).take (es.length * 2) = pcells es := by
    rw [pcells_append, List.take_append_of_le_length (by rw [pcells_length]; omega), List.take_of_length_le (by rw [pcells_length]; omega)]
  have hO := HO.out
  rw [ht] at hO
  have hq1 : QAt (w.setCell ⟨q, 0, none⟩ (.slice (some ⟨b0, 0, none⟩) es.length c)) q B (.slice (some ⟨b0, 0, none⟩) es.length c) es := ⟨blk_put HQ.out.blk 0 _, own_set hO HQ.out.hB _, HQ.out.hB⟩
  refine ⟨_, rfl, hq1.below (Below.alloc (Below.refl _ _) (Nat.le_refl _) _), ((Touch.refl q _ w).setq 0 _).below (Below.alloc (Below.refl _ _) (Nat.le_refl _) _), rfl⟩

def HPushPost (q B : Nat) (v : Value) (es : List PE) (x y : Int) (w : World) (e : Ending) (w' : World) : Prop :=
  ∃ (v' : Value) (es' : List PE), e = .returned (.tuple #[]) ∧ QAt w' q B v' es' ∧ es'.Perm ((x, y) :: es) ∧ HeapN es' es'.length ∧ Touch q v w w' ∧ SameOr v v' w

set_option maxHeartbeats 2000000 in
theorem hPush (q B : Nat) (v : Value) (es : List PE) (x y : Int) (w : World) (hq : QAt w q B v es) (hh : HeapN es es.length) (hB : B ≤ w.heap.size) (hm : es.length ≤ 3000000) :
    Calls Try.prog 62 #[.iface 92 (.pointer (some ⟨q, 0, none⟩)), .iface 39 (.agg #[.int .i64 x, .int .i64 y])] w (HPushPost q B v es x y w) := by
  have HP := ePush q B v es x y w hq hB (by omega)
  have hn1 := nil_ptr "Push" 0 (.inr (.inr (.inr (.inl rfl)))) ⟨q, 0, none⟩ w
  have hm1 := m_push ⟨q, 0, none⟩ w
  have hl : (es ++ [(x, y)]).length = es.length + 1 := by simp
  have HH := Lib.hid hh
  have HL := Lib.hid hl
  clear hq hh hl
  go_enter Try.func62, Try.ntmps62
  go_wp2_with (first
    | (go_at_call 162; go_loud (refine HP.mono ?_; rintro e w1 ⟨v1, rfl, hq1, ht1, hs1⟩; obtain ⟨A1, c1, rfl, hc1, _⟩ := own_reads0 hq1.own; (have hn2 := nil_ptr "Len" 0 (.inr (.inl rfl)) ⟨q, 0, none⟩ w1); have hm2 := m_len hq1.cell; have HQ1 := Lib.hid hq1; have HS1 := Lib.hid hs1; clear hq1 hs1 hn1 hm1; rw [HL.out] at hm2))
    | (go_at_call 158; go_loud (refine (lenQ _ _ _ _).mono ?_; rintro e w2 ⟨rfl, rfl⟩))
    | (go_at_call 92; go_loud (refine (up_any q B _ (es ++ [(x, y)]) es.length _ HQ1.out (up_start HH.out (x, y)) (by rw [HL.out]; omega) (by rw [HL.out]; omega)).mono ?_; rintro e w3 ⟨es', rfl, hq3, hp3, hh3, ht3⟩)))
  go_end0
  exact ⟨_, es', rfl, hq3, hp3.trans (List.perm_append_comm (l₁ := es) (l₂ := [(x, y)])), hh3, ht1.trans' ht3 HS1.out, HS1.out⟩

def HPopPost (q B : Nat) (v : Value) (es : List PE) (x : PE) (w : World) (e : Ending) (w' : World) : Prop :=
  ∃ (v' : Value) (es' : List PE), e = .returned (.iface 39 (.agg #[.int .i64 x.1, .int .i64 x.2])) ∧ QAt w' q B v' es' ∧ (x :: es').Perm es ∧ HeapN es' es'.length ∧ Touch q v w w' ∧ v'.ownBlock = v.ownBlock

theorem HeapN.take {l : List PE} {m : Nat} (h : HeapN l m) : HeapN (l.take m) (l.take m).length := by
  intro i h0 hi a b ha hb
  rw [List.length_take] at hi
  rw [List.getElem?_take] at ha hb
  split at ha
  · split at hb
    · exact h i h0 (by omega) a b ha hb
    · cases hb
  · cases ha
theorem take_last {l : List PE} {m : Nat} {x : PE} (hl : l.length = m + 1) (hx : l[m]? = some x) : l = l.take m ++ [x] := by
  have h := List.take_append_drop m l
  have hd : l.drop m = [x] := by
    apply List.ext_getElem?
    intro i
    rw [List.getElem?_drop]
    cases i with
    | zero => simpa using hx
    | succ i => rw [List.getElem?_eq_none (by omega)]; simp
  rw [hd] at h
  exact h.symm

set_option maxHeartbeats 2000000 in
theorem hPop (q B m : Nat) (v : Value) (es : List PE) (x : PE) (w : World) (hq : QAt w q B v es) (hh : HeapN es es.length) (hx : es[0]? = some x) (hlen : es.length = m + 1) (hm : es.length ≤ 3000000) :
    Calls Try.prog 63 #[.iface 92 (.pointer (some ⟨q, 0, none⟩))] w (HPopPost q B v es x w) := by
  obtain ⟨g, c, cur, rfl, hBg, hgl, _, hnc, _, _, _⟩ := own_open hq.own (by omega)
  have hgq : g ≠ q := by have := hq.hB; omega
  obtain ⟨y, hy⟩ : ∃ y, es[m]? = some y := ⟨es[m], by simp⟩
  have hn1 := nil_ptr "Len" 0 (.inr (.inl rfl)) ⟨q, 0, none⟩ w
  have hn2 := nil_ptr "Swap" 0 (.inr (.inr (.inl rfl))) ⟨q, 0, none⟩ w
  have hm1 := m_len hq.cell
  have hm2 := m_swap hq.cell
  have HSW := swapQ es 0 m x y hx hy B g c w hq.own (by omega)
  have hds := down_start hh (show m + 1 = es.length by omega)
  have hsl := swapL_length es 0 m
  have hsx : (swapL es 0 m)[m]? = some x := by
    rw [swapL_get hx hy, if_pos rfl]
  have HQ := Lib.hid hq
  have HX := Lib.hid hsx
  have HDS := Lib.hid hds
  have HSL := Lib.hid hsl
  have HLEN := Lib.hid hlen
  rw [hlen] at hm1 hm2 HSW
  have i1 : ((m + 1 : Nat) : Int) - 1 = (m : Int) := by omega
  rw [hlen] at hnc hm ⊢
  clear hq hh hx hy hds hsl hsx hlen
  go_enter Try.func63, Try.ntmps63
  go_wp2_with (first
    | (go_at_call 158; go_loud (refine (lenQ _ _ _ _).mono ?_; rintro e w2 ⟨rfl, rfl⟩))
    | (go_at_call 160; go_loud (refine HSW.mono ?_; rintro e w2 ⟨rfl, ho2, hg2⟩; have HQ2 : Hid (QAt w2 q B (.slice (some ⟨g, 0, none⟩) (m + 1) c) (swapL es 0 m)) := QAt.swap (by have h9 := HQ.out; rw [HLEN.out] at h9; exact h9) (by rw [HSL.out, HLEN.out]; exact ho2) hg2 hgq; clear hn1 hn2 hm1 hm2 ho2))
    | (go_at_call 93; go_loud (refine (down_any q B _ (swapL es 0 m) m _ HQ2.out HDS.out (by rw [HSL.out, HLEN.out]; omega) (by rw [HSL.out, HLEN.out]; omega)).mono ?_; rintro e w3 ⟨es3, b3, rfl, hq3, hp3, hh3, ho3, ht3⟩; have hn3 := nil_ptr "Pop" 0 (.inr (.inr (.inr (.inr rfl)))) ⟨q, 0, none⟩ w3; have hm3 := m_pop ⟨q, 0, none⟩ w3; have HQ3 := Lib.hid hq3; have HP3 := Lib.hid hp3; have HH3 := Lib.hid hh3; have HO3 := Lib.hid ho3; clear hq3 hp3 hh3 ho3))
    | (go_at_call 161; go_loud (
       have hes3 : es3 = es3.take m ++ [(x.1, x.2)] := take_last (by rw [HP3.out.length_eq, HSL.out, HLEN.out]) (by rw [HO3.out m (Nat.le_refl _)]; exact HX.out)
       refine (ePop q B _ (es3.take m) x.1 x.2 _ (by rw [← hes3]; exact HQ3.out) (by rw [List.length_take]; omega)).mono ?_
       have HES3 := Lib.hid hes3
       clear hes3
       rintro e w4 ⟨v4, rfl, hq4, ht4, hv4⟩)))
  go_ret
  refine ⟨v4, es3.take m, rfl, hq4, ?_, HH3.out.take, ?_, hv4⟩
  · have h1 : es3.Perm es := HP3.out.trans (swapL_perm _ _ _)
    have h2 : (x :: es3.take m).Perm es3 := by
      have h3 := HES3.out
      conv => rhs; rw [h3]
      exact (List.perm_append_comm (l₁ := [x]) (l₂ := es3.take m))
    exact h2.trans h1
  · have h1 : Touch q (.slice (some ⟨g, 0, none⟩) (m + 1) c) w w2 := (Touch.refl _ _ _).grown hg2
    exact (h1.trans ht3).trans ht4

end Go.Proofs.Ytglhdoibglafbaa

/- Walks of the queue's methods. -/
namespace Go.Proofs.Ytglhdoibglafbaa
open Go Go.RowKit
set_option maxRecDepth 100000
set_option linter.unusedVariables false

theorem qNew (w : World) : Calls Try.prog 17 #[] w fun e w' => e = .returned (.pointer (some ⟨w.heap.size, 0, none⟩)) ∧ QAt w' w.heap.size (w.heap.size + 1) (.slice none 0 0) [] ∧ Below w.heap.size w w' ∧ w'.heap.size = w.heap.size + 1 := by
  go_enter Try.func17, Try.ntmps17
  go_wp2
  go_ret
  exact ⟨rfl, ⟨heap_alloc_new w _, own_nil0 _ _ _ _, by omega⟩, by (repeat (first | with_reducible exact Below.refl _ _ | with_reducible assumption | with_reducible refine below_drewN0 ?_ _ | with_reducible refine Below.drew ?_ | with_reducible refine Below.alloc ?_ ?_ _ | with_reducible refine Below.setCell ?_ ?_ _ | go_size | exact Below.size (by assumption))), by simp⟩

theorem qLen (q B : Nat) (v : Value) (es : List PE) (w : World) (hq : QAt w q B v es) : Calls Try.prog 24 #[.pointer (some ⟨q, 0, none⟩)] w fun e w' => e = .returned (.int .i64 (es.length : Int)) ∧ w = w' := by
  obtain ⟨A, c, rfl, hc, _⟩ := own_reads0 hq.own
  have hcell := hq.cell
  clear hq
  go_enter Try.func24, Try.ntmps24
  go_wp2
  go_ret
  simp

def QPushPost (q B : Nat) (v : Value) (es : List PE) (x y : Int) (w : World) (e : Ending) (w' : World) : Prop :=
  ∃ (v' : Value) (es' : List PE), e = .returned (.int .i64 0) ∧ QAt w' q B v' es' ∧ es'.Perm ((x, y) :: es) ∧ HeapN es' es'.length ∧ Touch q v w w' ∧ SameOr v v' w

set_option maxHeartbeats 2000000 in
theorem qPush (q B : Nat) (v : Value) (es : List PE) (x y : Int) (w : World) (hq : QAt w q B v es) (hh : HeapN es es.length) (hB : B ≤ w.heap.size) (hm : es.length < 2000000) :
    Calls Try.prog 19 #[.pointer (some ⟨q, 0, none⟩), .agg #[.int .i64 x, .int .i64 y]] w (QPushPost q B v es x y w) := by
  have hb1 : Below w.heap.size w (w.alloc (Obj.cells #[Value.int .i64 x, Value.int .i64 y] 39)) := by (repeat (first | with_reducible exact Below.refl _ _ | with_reducible assumption | with_reducible refine below_drewN0 ?_ _ | with_reducible refine Below.drew ?_ | with_reducible refine Below.alloc ?_ ?_ _ | with_reducible refine Below.setCell ?_ ?_ _ | go_size | exact Below.size (by assumption)))
  have hcell := hq.cell
  have hql := hq.lt
  have HP := fun W hQ hBW => hPush q B v es x y W hQ hh hBW (by omega)
  have HQ := Lib.hid hq
  obtain ⟨A, c, rfl, hc, _⟩ := own_reads0 hq.own
  have i1 : ¬ ((2000000 : Int) ≤ (es.length : Int)) := by omega
  clear hq hh
  go_enter Try.func19, Try.ntmps19
  go_upto_region 5 with fail
  (refine wp_quiet_tail 6 (by kernel_rfl) (by kernel_rfl) ?_
   simp only [List.take_succ_cons, List.take_zero, List.drop_succ_cons, List.drop_zero]
   repeat (go_big_quiet_step (fail))
   refine wpQuiet_nil ?_
   intro _ hw'
   obtain ⟨nq, hw''⟩ := hw'
   subst hw'')
  go_wp2_with (go_at_call 62; go_loud (
    refine (HP _ ?_ ?_).mono ?_
    · exact (HQ.out.below hb1).below (by (repeat (first | with_reducible exact Below.refl _ _ | with_reducible assumption | with_reducible refine below_drewN0 ?_ _ | with_reducible refine Below.drew ?_ | with_reducible refine Below.alloc ?_ ?_ _ | with_reducible refine Below.setCell ?_ ?_ _ | go_size | exact Below.size (by assumption))))
    · go_size
    rintro e w2 ⟨v2, es2, rfl, hq2, hp2, hh2, ht2, hs2⟩))
  go_ret
  refine ⟨v2, es2, rfl, hq2, hp2, hh2, ?_, ?_⟩
  · exact ((Touch.refl q _ w).below (by (repeat (first | with_reducible exact Below.refl _ _ | with_reducible assumption | with_reducible refine below_drewN0 ?_ _ | with_reducible refine Below.drew ?_ | with_reducible refine Below.alloc ?_ ?_ _ | with_reducible refine Below.setCell ?_ ?_ _ | go_size | exact Below.size (by assumption))))).trans ht2
  · intro g hg
    rcases hs2 g hg with h9 | h9
    · exact .inl h9
    · right; simp at h9; omega

theorem qPeek (q B : Nat) (v : Value) (es : List PE) (x : PE) (w : World) (hq : QAt w q B v es) (hx : es[0]? = some x) :
    Calls Try.prog 23 #[.pointer (some ⟨q, 0, none⟩)] w fun e w' => e = .returned (.tuple #[.agg #[.int .i64 x.1, .int .i64 x.2], .int .i64 0]) ∧ Below w.heap.size w w' := by
  obtain ⟨g, c, cur, rfl, hBg, hgl, _, hnc, _, _, _⟩ := own_open hq.own (by have := (List.getElem?_eq_some_iff.1 hx).1; omega)
  have hcell := hq.cell
  have hql := hq.lt
  have hrd := (own_reads1 hq.own).1
  obtain ⟨b0, o0, hbo, _, e1, e2⟩ := hrd.pair' 0 x hx
  obtain ⟨rfl, rfl⟩ : b0 = g ∧ o0 = 0 := by simpa using hbo.symm
  simp only [Nat.zero_mul, Nat.add_zero, Nat.zero_add] at e1 e2
  have hl := (List.getElem?_eq_some_iff.1 hx).1
  have i1 : ((es.length : Int) == 0) = false := by simp; intro h; rw [h] at hl; simp at hl
  have i2 : (0 : Int) < (es.length : Int) := by omega
  clear hq hx hrd hbo
  go_enter Try.func23, Try.ntmps23
  go_wp2_with fail
  refine bodyPost_ret (v := .tuple #[.agg #[.int .i64 x.1, .int .i64 x.2], .int .i64 0]) (by simp [results, Try.results23, go_sem]) rfl ?_
  exact ⟨rfl, by (repeat (first | with_reducible exact Below.refl _ _ | with_reducible assumption | with_reducible refine below_drewN0 ?_ _ | with_reducible refine Below.drew ?_ | with_reducible refine Below.alloc ?_ ?_ _ | with_reducible refine Below.setCell ?_ ?_ _ | go_size | exact Below.size (by assumption)))⟩

end Go.Proofs.Ytglhdoibglafbaa
