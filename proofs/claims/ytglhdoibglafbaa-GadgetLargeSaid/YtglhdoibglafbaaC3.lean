/- The walk of gadget.Size. -/
import Derived.Test.YtglhdoibglafbaaC2
namespace Go.Proofs.Ytglhdoibglafbaa
open Go Go.RowKit
set_option maxRecDepth 100000
set_option linter.unusedVariables false

theorem degErr_small {m : Nat} {es : List (Int × Int)} {f : List Int} (hde : degErr m es f = 0) : RightP m es ∧ f.length = m ∧ (∀ v ∈ f, 0 ≤ v ∧ v ≤ 4096) ∧ Small2 (ports m es) f := by
  have hR : RightP m es := (right_iff _ _).1 (by
    unfold degErr at hde
    by_cases h : rightB m es = false
    · rw [if_pos h] at hde; omega
    · simpa using h)
  have hfl : f.length = m ∧ ∀ v ∈ f, 0 ≤ v ∧ v ≤ 4096 := by
    unfold degErr at hde
    rw [if_neg (by rw [(right_iff _ _).2 hR]; simp)] at hde
    by_cases h1 : (f.length : Int) = (m : Int)
    · rw [if_neg (by simpa using h1)] at hde
      by_cases h2 : 0 ≤ idxB badDeg f
      · rw [if_pos h2] at hde; omega
      · refine ⟨by omega, fun v hv => ?_⟩
        unfold idxB at h2
        cases hfi : f.findIdx? badDeg with
        | some i => rw [hfi] at h2; simp at h2
        | none =>
          have := List.findIdx?_eq_none_iff.1 hfi v hv
          unfold badDeg at this
          simp at this
          omega
    · rw [if_pos h1] at hde; omega
  refine ⟨hR, hfl.1, hfl.2, fun i => ?_⟩
  have hl := hR.len
  refine ⟨?_, ?_, ?_⟩
  · cases hp : (ports m es)[i]? with
    | none => simp
    | some v => have := ports_bound m es v (List.mem_of_getElem? hp); simp; omega
  · cases hp : (ports m es)[i]? with
    | none => simp
    | some v => have := ports_bound m es v (List.mem_of_getElem? hp); simp; omega
  · cases hp : f[i]? with
    | none => simp
    | some v => have := hfl.2 v (List.mem_of_getElem? hp); simp; exact this.1

/-- How large the gadget is, or why there is none. -/
def sizeOf3 (m : Nat) (es : List (Int × Int)) (f : List Int) : Int × Int × Int :=
  if degErr m es f ≠ 0 then (0, 0, degErr m es f) else if 65536 < gN (ports m es) f m ∨ 1048576 < gE (ports m es) f es.length m then (0, 0, 13) else (gN (ports m es) f m, gE (ports m es) f es.length m, 0)

set_option maxHeartbeats 1000000 in
theorem size_any (m : Nat) (es : List (Int × Int)) (f : List Int) (A Af : Option Addr) (c cf : Nat) (w : World) (hr : Reads w A (pcells es)) (hc : es.length ≤ c) (hm : es.length ≤ 4611686018427387903)
    (hrf : Reads w Af (icells f)) (hcf : f.length ≤ cf) (hmf : f.length ≤ 4611686018427387903) :
    Calls Try.prog 15 #[.agg #[.int .i64 (m : Int), .slice A es.length c], .slice Af f.length cf] w fun e w' =>
      e = .returned (.tuple #[.int .i64 (sizeOf3 m es f).1, .int .i64 (sizeOf3 m es f).2.1, .int .i64 (sizeOf3 m es f).2.2]) ∧ Below w.heap.size w w' := by
  by_cases hde : degErr m es f = 0
  · have HN := fun W hR hF => new_any m es f A Af c cf W hR hc hm hF hcf hmf hde
    have HS : sizeOf3 m es f = if 65536 < gN (ports m es) f m ∨ 1048576 < gE (ports m es) f es.length m then (0, 0, 13) else (gN (ports m es) f m, gE (ports m es) f es.length m, 0) := by unfold sizeOf3; rw [if_neg (by simpa using hde)]
    unfold NewPost at HN
    have hgn : 0 ≤ gN (ports m es) f m ∨ True := .inr trivial
    by_cases hbig : 65536 < gN (ports m es) f m ∨ 1048576 < gE (ports m es) f es.length m
    · rw [if_pos hbig] at HS
      rw [HS]
      have HN' : ∀ W, Reads W A (pcells es) → Reads W Af (icells f) → Calls Try.prog 61 #[.agg #[.int .i64 (m : Int), .slice A es.length c], .slice Af f.length cf] W fun e w' => e = .returned (.tuple #[.pointer none, .int .i64 13]) ∧ Below W.heap.size W w' :=
        fun W h1 h2 => (HN W h1 h2).mono fun e w' h => by
          rcases h with h | h
          · exact h.2
          · exact absurd hbig h.1
      clear HN HS hbig hde
      go_enter Try.func15, Try.ntmps15
      go_wp2_with (first | (go_at_call 61; refine (HN' _ (hr.below ?_) (hrf.below ?_)).mono ?_; (repeat (first | with_reducible exact Below.refl _ _ | with_reducible assumption | with_reducible refine below_drewN0 ?_ _ | with_reducible refine Below.drew ?_ | with_reducible refine Below.alloc ?_ ?_ _ | with_reducible refine Below.setCell ?_ ?_ _ | go_size)); (repeat (first | with_reducible exact Below.refl _ _ | with_reducible assumption | with_reducible refine below_drewN0 ?_ _ | with_reducible refine Below.drew ?_ | with_reducible refine Below.alloc ?_ ?_ _ | with_reducible refine Below.setCell ?_ ?_ _ | go_size)); rintro e w1 ⟨rfl, hb1⟩; have hbw : Below w.heap.size w w1 := Below.trans (by (repeat (first | with_reducible exact Below.refl _ _ | with_reducible assumption | with_reducible refine below_drewN0 ?_ _ | with_reducible refine Below.drew ?_ | with_reducible refine Below.alloc ?_ ?_ _ | with_reducible refine Below.setCell ?_ ?_ _ | go_size))) (hb1.mono (by simp))))
      go_ret3
      exact ⟨rfl, hbw⟩
    · rw [if_neg hbig] at HS
      rw [HS]
      have HN' : ∀ W, Reads W A (pcells es) → Reads W Af (icells f) → Calls Try.prog 61 #[.agg #[.int .i64 (m : Int), .slice A es.length c], .slice Af f.length cf] W fun e w' => ∃ (g bN N : Nat), e = .returned (.tuple #[.pointer (some ⟨g, 0, none⟩), .int .i64 0]) ∧ Below W.heap.size W w' ∧ W.heap.size ≤ g ∧ g < w'.heap.size ∧
          w'.cell? ⟨g, 0, none⟩ = some (.slice (some ⟨bN, 0, none⟩) N N) ∧ w'.cell? ⟨g, 4, none⟩ = some (.int .i64 (gE (ports m es) f es.length m)) ∧ Hid ((N : Int) = gN (ports m es) f m) :=
        fun W h1 h2 => (HN W h1 h2).mono fun e w' h => by
          rcases h with h | ⟨_, g, bF, bP, bC, bN, he, hb, hg, _, _, _, hG⟩
          · exact absurd h.1 hbig
          · refine ⟨g, bN, _, he, hb, hg, blkl hG.1, blkc hG.1 0 _ rfl, blkc hG.1 4 _ rfl, ?_⟩
            unfold Hid
            have := (gN_bound (degErr_small hde).2.2.2 m).1
            omega
      clear HN HS hbig hde
      go_enter Try.func15, Try.ntmps15
      go_wp2_with (first | (go_at_call 61; refine (HN' _ (hr.below ?_) (hrf.below ?_)).mono ?_; (repeat (first | with_reducible exact Below.refl _ _ | with_reducible assumption | with_reducible refine below_drewN0 ?_ _ | with_reducible refine Below.drew ?_ | with_reducible refine Below.alloc ?_ ?_ _ | with_reducible refine Below.setCell ?_ ?_ _ | go_size)); (repeat (first | with_reducible exact Below.refl _ _ | with_reducible assumption | with_reducible refine below_drewN0 ?_ _ | with_reducible refine Below.drew ?_ | with_reducible refine Below.alloc ?_ ?_ _ | with_reducible refine Below.setCell ?_ ?_ _ | go_size)); rintro e w1 ⟨g, bN, N, rfl, hb1, hg1, hg2, z0, z4, hNN⟩; have hbw : Below w.heap.size w w1 := Below.trans (by (repeat (first | with_reducible exact Below.refl _ _ | with_reducible assumption | with_reducible refine below_drewN0 ?_ _ | with_reducible refine Below.drew ?_ | with_reducible refine Below.alloc ?_ ?_ _ | with_reducible refine Below.setCell ?_ ?_ _ | go_size))) (hb1.mono (by simp))))
      go_quiet (fail)
      go_wp2_with fail
      go_ret3
      refine ⟨?_, below_drewN0 hbw nq⟩
      rw [← hNN.out]
      rfl
  · have HN := fun W hR hF => new_err m es f A Af c cf W hR hc hm hF hcf hmf hde
    have HS : sizeOf3 m es f = (0, 0, degErr m es f) := by unfold sizeOf3; rw [if_pos hde]
    rw [HS]
    clear HS
    generalize degErr m es f = d at HN hde ⊢
    have hd' : (d != 0) = true := by simpa using hde
    clear hde
    go_enter Try.func15, Try.ntmps15
    go_wp2_with (first | (go_at_call 61; refine (HN _ (hr.below ?_) (hrf.below ?_)).mono ?_; (repeat (first | with_reducible exact Below.refl _ _ | with_reducible assumption | with_reducible refine below_drewN0 ?_ _ | with_reducible refine Below.drew ?_ | with_reducible refine Below.alloc ?_ ?_ _ | with_reducible refine Below.setCell ?_ ?_ _ | go_size)); (repeat (first | with_reducible exact Below.refl _ _ | with_reducible assumption | with_reducible refine below_drewN0 ?_ _ | with_reducible refine Below.drew ?_ | with_reducible refine Below.alloc ?_ ?_ _ | with_reducible refine Below.setCell ?_ ?_ _ | go_size)); rintro e w1 ⟨rfl, hb1⟩; have hbw : Below w.heap.size w w1 := Below.trans (by (repeat (first | with_reducible exact Below.refl _ _ | with_reducible assumption | with_reducible refine below_drewN0 ?_ _ | with_reducible refine Below.drew ?_ | with_reducible refine Below.alloc ?_ ?_ _ | with_reducible refine Below.setCell ?_ ?_ _ | go_size))) (hb1.mono (by simp))))
    go_ret3
    exact ⟨rfl, hbw⟩

/-- awake: two vertices, one edge. -/
theorem awake24 (w : World) : Calls Try.prog 16 #[] w fun e w' => e = .returned (.bool true) ∧ Below w.heap.size w w' := by
  have HZ := fun W A Af hR hF => size_any 2 [(0, 1)] [1, 0] A Af 1 2 W hR (by simp) (by simp) hF (by simp) (by simp)
  have e1 : sizeOf3 2 [(0, 1)] [1, 0] = (3, 2, 0) := by decide
  rw [e1] at HZ
  simp only [] at HZ
  go_enter Try.func16, Try.ntmps16
  go_wp2_with (go_at_call 15; refine (HZ _ _ _ ?_ ?_).mono ?_; exact (reads_new w [_, _] _).below (Below.alloc (Below.refl _ _) (Nat.le_refl _) _); exact (by have := reads_new (w.alloc (Obj.cells #[Value.int IntKind.i64 0, Value.int IntKind.i64 1] 28)) [.int .i64 1, .int .i64 0] 3; rwa [World.size_alloc] at this); rintro e w1 ⟨rfl, hb1⟩)
  go_ret
  exact ⟨rfl, Below.trans (by (repeat (first | with_reducible exact Below.refl _ _ | with_reducible assumption | with_reducible refine below_drewN0 ?_ _ | with_reducible refine Below.drew ?_ | with_reducible refine Below.alloc ?_ ?_ _ | with_reducible refine Below.setCell ?_ ?_ _ | go_size))) (hb1.mono (by simp; omega))⟩
end Go.Proofs.Ytglhdoibglafbaa
