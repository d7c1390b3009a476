/- Degrees: tutte.Right and what it calls. -/
import Derived.Test.YtglhdoibglafbaaA2
import Derived.Test.YtglhdoibglafbaaBA
namespace Go.Proofs.Ytglhdoibglafbaa
open Go Go.RowKit
set_option maxRecDepth 100000
set_option linter.unusedVariables false

def badDeg (x : Int) : Bool := decide (x < 0) || decide (4096 < x)
theorem bad_any (x : Int) (w : World) :
    Calls Try.prog 106 #[.int .i64 x] w fun e w' => e = .returned (.bool (badDeg x)) ∧ w = w' := by
  unfold badDeg
  by_cases h : x < 0
  · go_enter Try.func106, Try.ntmps106
    go_wp2
    go_ret
    simp [h]
  · go_enter Try.func106, Try.ntmps106
    go_wp2
    go_ret
    simp; omega

def idxB (p : Int → Bool) (l : List Int) : Int := match l.findIdx? p with | some i => i | none => -1
theorem idxB_no (p : Int → Bool) (l : List Int) (h : ∀ (j : Nat) x, l[j]? = some x → p x = false) : idxB p l = -1 := by
  unfold idxB
  rw [List.findIdx?_eq_none_iff.2 (fun x hx => by
    obtain ⟨j, hj, rfl⟩ := List.getElem_of_mem hx
    exact h j _ (by simp [hj]))]
theorem idxB_yes (p : Int → Bool) (l : List Int) (k : Nat) (x : Int) (hk : l[k]? = some x) (hp : p x = true) (h : ∀ (j : Nat) x, j < k → l[j]? = some x → p x = false) : idxB p l = k := by
  unfold idxB
  obtain ⟨hkl, hke⟩ := List.getElem?_eq_some_iff.1 hk
  have : l.findIdx? p = some k := by
    rw [List.findIdx?_eq_some_iff_getElem]
    refine ⟨hkl, by rw [hke]; exact hp, fun j hj => ?_⟩
    have := h j (l[j]'(by omega)) hj (by simp)
    simp [this]
  rw [this]

theorem idxf_any (l : List Int) (A : Option Addr) (c : Nat) (w : World) (hr : Reads w A (icells l)) (hc : l.length ≤ c) (hm : l.length ≤ 4611686018427387903) :
    Calls Try.prog 128 #[.slice A l.length c, .func (Fn.func 106) #[] #[]] w fun e w' => e = .returned (.int .i64 (idxB badDeg l)) ∧ w = w' := by
  go_enter Try.func128, Try.ntmps128
  go_wp2_with fail
  go_loop [8] (fun i => ∃ k : Nat, k ≤ l.length ∧ i = .int .i64 k ∧ Hid (∀ (j : Nat) x, j < k → l[j]? = some x → badDeg x = false)) (fun i => l.length - (intOf i).toNat)
  case atStart => exact ⟨0, Nat.zero_le _, rfl, fun j x hj => by omega⟩
  case round =>
    obtain ⟨k, hk, rfl, hok⟩ := hrel
    by_cases hlt : k < l.length
    · obtain ⟨x, hx⟩ : ∃ x, l[k]? = some x := ⟨l[k], by simp [hlt]⟩
      obtain ⟨b, o, rfl, hbl, e1⟩ := hr.int k x hx
      have HX := Lib.hid hx
      clear hx
      have HB := fun W => bad_any x W
      generalize hbx : badDeg x = bx at HB
      have HBX := Lib.hid hbx
      clear hbx
      cases bx with
      | true =>
        go_wp2_with (go_at_call 106; refine (HB _).mono ?_; rintro e w1 ⟨rfl, rfl⟩)
        go_ret
        exact ⟨by rw [idxB_yes badDeg l k x HX.out HBX.out hok.out]; rfl, rfl⟩
      | false =>
        go_wp2_with (go_at_call 106; refine (HB _).mono ?_; rintro e w1 ⟨rfl, rfl⟩)
        go_round
        case rel => exact ⟨k + 1, by omega, by go_num, fun j y hj hy => by
                            by_cases e : j = k
                            · subst e; rw [HX.out] at hy; injection hy with hy; subst hy; exact HBX.out
                            · exact hok.out j y (by omega) hy⟩
        case measure => simp [intOf]; omega
    · go_wp2_with fail
      go_ret
      exact ⟨by rw [idxB_no badDeg l (fun j x hx => hok.out j x (by have := (List.getElem?_eq_some_iff.1 hx).1; omega) hx)]; rfl, rfl⟩

theorem contf_any (l : List Int) (A : Option Addr) (c : Nat) (w : World) (hr : Reads w A (icells l)) (hc : l.length ≤ c) (hm : l.length ≤ 4611686018427387903) :
    Calls Try.prog 105 #[.slice A l.length c, .func (Fn.func 106) #[] #[]] w fun e w' => e = .returned (.bool (decide (0 ≤ idxB badDeg l))) ∧ w = w' := by
  have HI := fun W hR => idxf_any l A c W hR hc hm
  generalize idxB badDeg l = r at HI ⊢
  go_enter Try.func105, Try.ntmps105
  go_wp2_with (go_at_call 128; refine (HI _ hr).mono ?_; rintro e w1 ⟨rfl, rfl⟩)
  go_ret
  exact ⟨rfl, rfl⟩

/-- Why there is nothing of a graph and degrees; 0: there is. -/
def degErr (n : Int) (es : List (Int × Int)) (f : List Int) : Int :=
  if rightB n es = false then 3 else if (f.length : Int) ≠ n then 12 else if 0 ≤ idxB badDeg f then 12 else 0

set_option maxHeartbeats 1000000 in
theorem degRight (n : Int) (es : List (Int × Int)) (f : List Int) (A Af : Option Addr) (c cf : Nat) (w : World) (hr : Reads w A (pcells es)) (hc : es.length ≤ c) (hm : es.length ≤ 4611686018427387903)
    (hrf : Reads w Af (icells f)) (hcf : f.length ≤ cf) (hmf : f.length ≤ 4611686018427387903) :
    Calls Try.prog 91 #[.agg #[.int .i64 n, .slice A es.length c], .slice Af f.length cf] w fun e w' => e = .returned (.int .i64 (degErr n es f)) ∧ Below w.heap.size w w' := by
  have HR := fun W hR => right_any n es A c W hR hc hm
  have HC := fun W hR => contf_any f Af cf W hR hcf hmf
  unfold degErr
  generalize idxB badDeg f = ib at HC ⊢
  generalize rightB n es = rb at HR ⊢
  cases rb with
  | false =>
    simp only [if_true]
    go_enter Try.func91, Try.ntmps91
    go_wp2_with (go_at_call 31; refine (HR _ (hr.below ?_)).mono ?_; (repeat (first | with_reducible exact Below.refl _ _ | with_reducible assumption | with_reducible refine below_drewN0 ?_ _ | with_reducible refine Below.drew ?_ | with_reducible refine Below.alloc ?_ ?_ _ | with_reducible refine Below.setCell ?_ ?_ _ | go_size)); rintro e w1 ⟨rfl, hb1⟩)
    go_ret
    exact ⟨rfl, Below.trans (by (repeat (first | with_reducible exact Below.refl _ _ | with_reducible assumption | with_reducible refine below_drewN0 ?_ _ | with_reducible refine Below.drew ?_ | with_reducible refine Below.alloc ?_ ?_ _ | with_reducible refine Below.setCell ?_ ?_ _ | go_size))) (hb1.mono (by simp))⟩
  | true =>
  rw [if_neg (by simp)]
  by_cases hf : (f.length : Int) = n
  · have hf' : ((f.length : Int) != n) = false := by simpa using hf
    rw [if_neg (by simpa using hf)]
    clear hf
    by_cases hi : 0 ≤ ib
    · rw [if_pos hi]
      go_enter Try.func91, Try.ntmps91
      go_wp2_with (first | (go_at_call 31; refine (HR _ (hr.below ?_)).mono ?_; (repeat (first | with_reducible exact Below.refl _ _ | with_reducible assumption | with_reducible refine below_drewN0 ?_ _ | with_reducible refine Below.drew ?_ | with_reducible refine Below.alloc ?_ ?_ _ | with_reducible refine Below.setCell ?_ ?_ _ | go_size)); rintro e w1 ⟨rfl, hb1⟩; have hbw : Below w.heap.size w w1 := Below.trans (by (repeat (first | with_reducible exact Below.refl _ _ | with_reducible assumption | with_reducible refine below_drewN0 ?_ _ | with_reducible refine Below.drew ?_ | with_reducible refine Below.alloc ?_ ?_ _ | with_reducible refine Below.setCell ?_ ?_ _ | go_size))) (hb1.mono (by simp)); obtain ⟨a0, a1, a2, a3, a4⟩ := blk2 ((hb1.block w.heap.size (by simp)).trans (heap_alloc_new _ _))) | (go_at_call 105; refine (HC _ (hrf.below hbw)).mono ?_; rintro e w2 ⟨rfl, rfl⟩))
      go_ret
      exact ⟨rfl, hbw⟩
    · rw [if_neg hi]
      go_enter Try.func91, Try.ntmps91
      go_wp2_with (first | (go_at_call 31; refine (HR _ (hr.below ?_)).mono ?_; (repeat (first | with_reducible exact Below.refl _ _ | with_reducible assumption | with_reducible refine below_drewN0 ?_ _ | with_reducible refine Below.drew ?_ | with_reducible refine Below.alloc ?_ ?_ _ | with_reducible refine Below.setCell ?_ ?_ _ | go_size)); rintro e w1 ⟨rfl, hb1⟩; have hbw : Below w.heap.size w w1 := Below.trans (by (repeat (first | with_reducible exact Below.refl _ _ | with_reducible assumption | with_reducible refine below_drewN0 ?_ _ | with_reducible refine Below.drew ?_ | with_reducible refine Below.alloc ?_ ?_ _ | with_reducible refine Below.setCell ?_ ?_ _ | go_size))) (hb1.mono (by simp)); obtain ⟨a0, a1, a2, a3, a4⟩ := blk2 ((hb1.block w.heap.size (by simp)).trans (heap_alloc_new _ _))) | (go_at_call 105; refine (HC _ (hrf.below hbw)).mono ?_; rintro e w2 ⟨rfl, rfl⟩))
      go_ret
      exact ⟨rfl, hbw⟩
  · have hf' : ((f.length : Int) != n) = true := by simpa using hf
    rw [if_pos (by simpa using hf)]
    clear hf
    go_enter Try.func91, Try.ntmps91
    go_wp2_with (first | (go_at_call 31; refine (HR _ (hr.below ?_)).mono ?_; (repeat (first | with_reducible exact Below.refl _ _ | with_reducible assumption | with_reducible refine below_drewN0 ?_ _ | with_reducible refine Below.drew ?_ | with_reducible refine Below.alloc ?_ ?_ _ | with_reducible refine Below.setCell ?_ ?_ _ | go_size)); rintro e w1 ⟨rfl, hb1⟩; have hbw : Below w.heap.size w w1 := Below.trans (by (repeat (first | with_reducible exact Below.refl _ _ | with_reducible assumption | with_reducible refine below_drewN0 ?_ _ | with_reducible refine Below.drew ?_ | with_reducible refine Below.alloc ?_ ?_ _ | with_reducible refine Below.setCell ?_ ?_ _ | go_size))) (hb1.mono (by simp)); obtain ⟨a0, a1, a2, a3, a4⟩ := blk2 ((hb1.block w.heap.size (by simp)).trans (heap_alloc_new _ _))) | (go_at_call 105; refine (HC _ (hrf.below hbw)).mono ?_; rintro e w2 ⟨rfl, rfl⟩))
    go_ret
    exact ⟨rfl, hbw⟩
end Go.Proofs.Ytglhdoibglafbaa
