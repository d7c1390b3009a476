/- The walk of the law GadgetLarge. -/
import Derived.Test.YtglhdoibglafbaaGL0
namespace Go.Proofs.Ytglhdoibglafbaa
open Go Go.RowKit
set_option maxRecDepth 100000
set_option linter.unusedVariables false

theorem own_types {w : World} {b b' : Nat} {e e' : TypeId} {s s' n n' : Nat} {v v' : Value} {xs xs' : List Value} (h : w.ownsRow b e s v n xs) (h' : w.ownsRow b' e' s' v' n' xs') (hne : e ≠ e') (g : Nat) (hg : v.ownBlock = some g) : v'.ownBlock ≠ some g := by
  intro hg'
  rcases h.2 with ⟨rfl, _⟩ | ⟨g1, cap, cur, rfl, _, hh, _⟩
  · simp [Value.ownBlock] at hg
  · rcases h'.2 with ⟨rfl, _⟩ | ⟨g2, cap', cur', rfl, _, hh', _⟩
    · simp [Value.ownBlock] at hg'
    · simp [Value.ownBlock] at hg hg'
      subst hg hg'
      rw [hh] at hh'
      injection hh' with hh'
      injection hh' with _ hh'
      exact hne hh'
theorem own_grown {w w1 : World} {b e s n : Nat} {v : Value} {xs : List Value} (h : w.ownsRow b e s v n xs) {row : Option Nat} (hg : w.grownBy w1 row) (hne : ∀ g, v.ownBlock = some g → row ≠ some g) : w1.ownsRow b e s v n xs :=
  own_far h fun g hg' => hg.block g (own_lt0 h g hg').2 (fun e => hne g hg' e.symm)
theorem own_new {w : World} {base e : Nat} {cs : List Value} (hb : base ≤ w.heap.size) (hl : cs.length ≤ maxLen) : (w.alloc (.cells cs.toArray e)).ownsRow base e 1 (.slice (some ⟨w.heap.size, 0, none⟩) cs.length cs.length) cs.length cs := by
  refine ⟨by simp, .inr ⟨w.heap.size, cs.length, cs.toArray, rfl, hb, heap_alloc_new w _, Nat.le_refl _, hl, by simp, by simp⟩⟩

theorem n_fact (x : Int) : ∃ N : Nat, 1 ≤ N ∧ N ≤ 4000 ∧ wrap64 (1 + wrap64 ((IntKind.u64.wrap x).tmod 4000)) = N ∧ wrap64 ((N : Int) + 1) = N + 1 := by
  have h2 : 0 ≤ IntKind.u64.wrap x := by rw [IntKind.wrap_u64]; omega
  generalize IntKind.u64.wrap x = u at *
  have h3 := Int.tmod_nonneg 4000 h2
  have h4 := Int.tmod_lt_of_pos u (show (0 : Int) < 4000 by omega)
  refine ⟨(1 + u.tmod 4000).toNat, by omega, by omega, ?_, ?_⟩
  · unfold wrap64; omega
  · unfold wrap64; omega
theorem f_fact (x : Int) : ∃ F : Int, 0 ≤ F ∧ F ≤ 3999 ∧ wrap64 ((IntKind.u64.wrap x).tmod 4000) = F := by
  have h2 : 0 ≤ IntKind.u64.wrap x := by rw [IntKind.wrap_u64]; omega
  generalize IntKind.u64.wrap x = u at *
  have h3 := Int.tmod_nonneg 4000 h2
  have h4 := Int.tmod_lt_of_pos u (show (0 : Int) < 4000 by omega)
  exact ⟨u.tmod 4000, by omega, by omega, by unfold wrap64; omega⟩

set_option maxHeartbeats 4000000 in
theorem large_any (n0 f0 : Int) (hn1 : -9223372036854775808 ≤ n0) (hn2 : n0 ≤ 9223372036854775807) (hf1 : -9223372036854775808 ≤ f0) (hf2 : f0 ≤ 9223372036854775807) (w : World) :
    Calls Try.prog 3 #[.int .i64 n0, .int .i64 f0] w fun e w' => e = .returned (.bool true) ∧ Below w.heap.size w w' := by
  go_enter Try.func3, Try.ntmps3
  go_wp2_with fail
  obtain ⟨N, hN1, hN2, hN3, hN4⟩ := n_fact n0
  obtain ⟨F, hF1, hF2, hF3⟩ := f_fact f0
  simp only [hN3, hN4, hF3]
  clear hN3 hN4 hF3 hn1 hn2 hf1 hf2
  generalize hW : (w.alloc (Obj.cells #[Value.int IntKind.i64 ((N : Int) + 1), Value.slice none 0 0] 25)).alloc (Obj.cells #[Value.int IntKind.i64 F] 3) = W
  have hbW : Below w.heap.size w W := by rw [← hW]; (repeat (first | with_reducible exact Below.refl _ _ | with_reducible assumption | with_reducible refine below_drewN0 ?_ _ | with_reducible refine Below.drew ?_ | with_reducible refine Below.alloc ?_ ?_ _ | with_reducible refine Below.setCell ?_ ?_ _ | go_size))
  have hA0 : W.heap[w.heap.size]? = some (.cells #[Value.int IntKind.i64 ((N : Int) + 1), Value.slice none 0 0] 25 (0, 0)) := by rw [← hW]; exact heap_old (heap_alloc_new w _)
  have hw0 : W.ownsRow (w.heap.size + 1) 3 1 (.slice (some ⟨w.heap.size + 1, 0, none⟩) 1 1) 1 [.int .i64 F] := by
    have := own_new (w := w.alloc (Obj.cells #[Value.int IntKind.i64 ((N : Int) + 1), Value.slice none 0 0] 25)) (base := w.heap.size + 1) (e := 3) (cs := [.int .i64 F]) (by simp) (by simp [maxLen])
    rw [World.size_alloc] at this
    rw [← hW]
    exact this
  have hsz : W.heap.size = w.heap.size + 2 := by rw [← hW]; simp
  clear hW
  go_loopw [6, 7] (fun v6 v7 wr => ∃ (k : Nat) (A Aw : Option Addr) (c cw : Nat), v7 = .int .i64 ((k : Int) + 1) ∧ k ≤ N ∧ v6 = .slice Aw (k + 1) cw ∧ k + 1 ≤ cw ∧ k ≤ c ∧
    Hid (wr.heap[w.heap.size]? = some (.cells #[Value.int IntKind.i64 ((N : Int) + 1), Value.slice A k c] 25 (0, 0))) ∧
    wr.ownsRow (w.heap.size + 1) 28 2 (.slice A k c) k (pcells (star k)) ∧ wr.ownsRow (w.heap.size + 1) 3 1 (.slice Aw (k + 1) cw) (k + 1) (icells (wants F k)) ∧ Below w.heap.size w wr) (fun _ i _ => N + 1 - (intOf i).toNat)
  case atStart => exact ⟨0, none, _, 0, 1, rfl, Nat.zero_le _, rfl, by omega, by omega, hA0, own_nil0 _ _ _ _, hw0, hbW⟩
  case round =>
    clear hA0 hw0 hsz hbW W
    obtain ⟨k, A, Aw, c, cw, rfl, hk, rfl, hcw, hck, hgA, hoE, hoW, hb⟩ := hrel
    obtain ⟨a0, a1, a2, a3, a4⟩ := blk2 hgA.out
    have hsr := hb.size
    by_cases hlt : k < N
    · have hlt' : (k : Int) + 1 ≤ (N : Int) := by omega
      go_wp2_with (first
        | (at_builtin; refine wpList_app EI_edge rfl (.tmp 32) (.tmp 35) rfl (w.heap.size + 1) (.slice A k c) k (pcells (star k)) rfl ?_ (some ⟨_, 0, none⟩) 1 1 [.int .i64 0, .int .i64 ((k : Int) + 1)] rfl ?_ rfl ?_ ?_ ?_ ?_
           · exact own_below0 hoE (by (repeat (first | with_reducible exact Below.refl _ _ | with_reducible assumption | with_reducible refine below_drewN0 ?_ _ | with_reducible refine Below.drew ?_ | with_reducible refine Below.alloc ?_ ?_ _ | with_reducible refine Below.setCell ?_ ?_ _ | go_size)))
           · exact reads_new wr [_, _] _
           · simp [Value.oneCell']
           · omega
           · simp; omega
           intro v1 w1 hown1 hg1 hat1
           have hne1 : ∀ g, (Value.slice A k c).ownBlock = some g → w.heap.size + 1 ≤ g := fun g hg => (own_lt0 hoE g hg).1
           obtain ⟨r0, r1, r2, r3, r4⟩ := blk2 ((hg1.block w.heap.size (by simp; omega) (fun e => by have := hne1 _ e.symm; omega)).trans (heap_old hgA.out))
           have hoW1 := own_grown (own_below0 hoW (Below.alloc (Below.refl _ _) (Nat.le_refl _) (Obj.cells #[Value.int IntKind.i64 0, Value.int IntKind.i64 ((k : Int) + 1)] 28))) hg1 (fun g hg => own_types hoW hoE (by decide) g hg)
           have hb1 : Below w.heap.size w w1 := below_app (by (repeat (first | with_reducible exact Below.refl _ _ | with_reducible assumption | with_reducible refine below_drewN0 ?_ _ | with_reducible refine Below.drew ?_ | with_reducible refine Below.alloc ?_ ?_ _ | with_reducible refine Below.setCell ?_ ?_ _ | go_size))) hg1 (by simp; omega) (fun g hg => by have := hne1 g hg; omega)
           have hA1 := Lib.hid ((hg1.block w.heap.size (by simp; omega) (fun e => by have := hne1 _ e.symm; omega)).trans (heap_old hgA.out))
           obtain ⟨A1, c1, rfl, hl1, hrd1⟩ := own_reads0 hown1)
        | (at_builtin; refine wpList_app EI_int rfl (.tmp 38) (.tmp 39) rfl (w.heap.size + 1) (.slice Aw (k + 1) cw) (k + 1) (icells (wants F k)) rfl ?_ (some ⟨_, 0, none⟩) 1 1 [.int .i64 1] rfl ?_ rfl ?_ ?_ ?_ ?_
           · exact own_below0 (own_set (a := ⟨w.heap.size, 1, none⟩) hoW1 (by dsimp only; omega) _) (Below.alloc (Below.refl _ _) (Nat.le_refl _) _)
           · have hh := reads_new (w1.setCell ⟨w.heap.size, 1, none⟩ (.slice A1 (k + 1) c1)) [.int .i64 1] 3
             rw [World.size_setCell] at hh
             exact hh
           · simp [Value.oneCell']
           · omega
           · simp; omega
           intro v2 w2 hown2 hg2 hat2
           obtain ⟨A2, c2, rfl, hl2, hrd2⟩ := own_reads0 hown2))
      go_roundw
      case rel =>
        have hb1s := hb1.size
        have hoE2 := own_below0 (own_set (a := ⟨w.heap.size, 1, none⟩) hown1 (by dsimp only; omega) (Value.slice A1 (k + 1) c1)) (Below.alloc (Below.refl _ _) (Nat.le_refl _) (Obj.cells #[Value.int IntKind.i64 1] 3))
        have hoW2 := own_below0 (own_set (a := ⟨w.heap.size, 1, none⟩) hoW1 (by dsimp only; omega) (Value.slice A1 (k + 1) c1)) (Below.alloc (Below.refl _ _) (Nat.le_refl _) (Obj.cells #[Value.int IntKind.i64 1] 3))
        have hne2 : ∀ g, (Value.slice Aw (k + 1) cw).ownBlock = some g → w.heap.size + 1 ≤ g := fun g hg => (own_lt0 hoW g hg).1
        refine ⟨k + 1, A1, A2, c1, c2, by push_cast; rfl, by omega, rfl, hl2, hl1, ?_, ?_, ?_, ?_⟩
        · exact (hg2.block w.heap.size (by simp; omega) (fun e => by have := hne2 _ e.symm; omega)).trans (heap_old (blk_set1 hA1.out 1 _))
        · refine own_cast (own_grown hoE2 hg2 (fun g hg => own_types hoE2 hoW2 (by decide) g hg)) (Nat.le_refl _) rfl ?_
          rw [star_succ, pcells_append]; rfl
        · refine own_cast hown2 (Nat.le_refl _) rfl ?_
          rw [wants_succ, icells_append]; rfl
        · exact below_app (by (repeat (first | with_reducible exact Below.refl _ _ | with_reducible assumption | with_reducible refine below_drewN0 ?_ _ | with_reducible refine Below.drew ?_ | with_reducible refine Below.alloc ?_ ?_ _ | with_reducible refine Below.setCell ?_ ?_ _ | go_size))) hg2 (by simp; omega) (fun g hg => by have := hne2 g hg; omega)
      case measure => simp [intOf]; omega
    · obtain rfl : k = N := by omega
      have HZ : ∀ W, Reads W A (pcells (star k)) → Reads W Aw (icells (wants F k)) → Calls Try.prog 15 #[.agg #[.int .i64 ((k : Int) + 1), .slice A k c], .slice Aw (k + 1) cw] W fun e w' =>
          e = .returned (.tuple #[.int .i64 (sizeOf3 (k + 1) (star k) (wants F k)).1, .int .i64 (sizeOf3 (k + 1) (star k) (wants F k)).2.1, .int .i64 (sizeOf3 (k + 1) (star k) (wants F k)).2.2]) ∧ Below W.heap.size W w' := by
        intro W h1 h2
        have hwl : (wants F k).length = k + 1 := by simp [wants]
        have := size_any (k + 1) (star k) (wants F k) A Aw c cw W h1 (by rw [star_length]; exact hck) (by rw [star_length]; omega) h2 (by rw [hwl]; exact hcw) (by rw [hwl]; omega)
        rw [star_length, hwl] at this
        exact this
      rw [size_star k (by omega) F hF1 (by omega)] at HZ
      have hrE : Hid (Reads wr A (pcells (star k))) := by
        obtain ⟨A9, c9, h9, _, hrd⟩ := own_reads0 hoE
        simp at h9; obtain ⟨rfl, rfl⟩ := h9; exact hrd
      have hrW : Hid (Reads wr Aw (icells (wants F k))) := by
        obtain ⟨A9, c9, h9, _, hrd⟩ := own_reads0 hoW
        simp at h9; obtain ⟨rfl, rfl⟩ := h9; exact hrd
      have hAW := fun W => awake24 W
      by_cases hFk : F < (k : Int)
      · have hm : max ((k : Int) - F) 0 = (k : Int) - F := by omega
        rw [hm] at HZ
        have hq0 : 0 ≤ (k : Int) * ((k : Int) - F) := Int.mul_nonneg (by omega) (by omega)
        have hq1 : (k : Int) * ((k : Int) - F) ≤ 16000000 := Int.le_trans (Int.mul_le_mul (show (k : Int) ≤ 4000 by omega) (show (k : Int) - F ≤ 4000 by omega) (by omega) (by omega)) (by omega)
        clear hm
        by_cases hbig : 1048576 < (k : Int) + k * ((k : Int) - F)
        · rw [if_pos hbig] at HZ
          simp only [] at HZ
          go_wp2_with (first
            | (go_at_call 15; refine (HZ _ hrE.out hrW.out).mono ?_; rintro e w1 ⟨rfl, hb1⟩)
            | (go_at_call 16; refine (hAW _).mono ?_; rintro e w2 ⟨rfl, hb2⟩))
          go_ret
          exact ⟨rfl, hb.trans (Below.trans (hb1.mono hsr) (hb2.mono (by have := hb1.size; omega)))⟩
        · rw [if_neg hbig] at HZ
          simp only [] at HZ
          go_wp2_with (first
            | (go_at_call 15; refine (HZ _ hrE.out hrW.out).mono ?_; rintro e w1 ⟨rfl, hb1⟩)
            | (go_at_call 16; refine (hAW _).mono ?_; rintro e w2 ⟨rfl, hb2⟩))
          go_ret
          exact ⟨by simp, hb.trans (Below.trans (hb1.mono hsr) (hb2.mono (by have := hb1.size; omega)))⟩
      · have hm : max ((k : Int) - F) 0 = 0 := by omega
        rw [hm] at HZ
        clear hm
        rw [if_neg (by omega)] at HZ
        simp only [Int.mul_zero, Int.add_zero] at HZ
        go_wp2_with (first
          | (go_at_call 15; refine (HZ _ hrE.out hrW.out).mono ?_; rintro e w1 ⟨rfl, hb1⟩)
          | (go_at_call 16; refine (hAW _).mono ?_; rintro e w2 ⟨rfl, hb2⟩))
        go_ret
        exact ⟨by simp, hb.trans (Below.trans (hb1.mono hsr) (hb2.mono (by have := hb1.size; omega)))⟩
end Go.Proofs.Ytglhdoibglafbaa
