/- The walk of the reference's Put of the queue: an entry among some that are in order. -/
import Derived.Test.YtglhdoibglafbaaMGadgetPlaces5
import Derived.Deep.RegionLaw
import Derived.Sort.Statements
import Derived.Shelf.SlSortCmp.Insertion
import Derived.Sort.Grow
import Derived.Shelf.SlLaysF0
import Derived.Ground.SlsfProg
import Derived.WalkSpells
import Derived.Lib.SliceRun
namespace Go.Proofs.Ytglhdoibglafbaa
open Go Go.RowKit
set_option maxRecDepth 100000
set_option linter.unusedVariables false


theorem EI_ent : EI Try.prog 34 39 (.agg #[.int .i64 0, .int .i64 0]) 2 16 := ⟨Try.underlying34, by kernel_rfl, rfl, by decide, by decide⟩

theorem aheadQ (a b c d : Int) (w : World) :
    Calls Try.prog 64 #[.agg #[.int .i64 a, .int .i64 b], .agg #[.int .i64 c, .int .i64 d]] w fun e w' => e = .returned (.bool (decide (a < c ∨ a = c ∧ b < d))) ∧ Below w.heap.size w w' := by
  by_cases h : a < c
  · go_enter Try.func64, Try.ntmps64
    go_wp2
    go_ret
    exact ⟨by simp [h], by go_grown⟩
  · by_cases h' : a = c
    · subst h'
      go_enter Try.func64, Try.ntmps64
      go_wp2
      go_ret
      exact ⟨by simp, by go_grown⟩
    · have h2 : (a == c) = false := by simpa using h'
      go_enter Try.func64, Try.ntmps64
      go_wp2
      go_ret
      exact ⟨by simp; omega, by go_grown⟩

set_option maxHeartbeats 2000000 in
theorem putQ (es : List (Int × Int)) (x y : Int) (A : Option Addr) (c : Nat) (w : World) (hr : Reads w A (pcells es)) (hc : es.length ≤ c) (hm : es.length ≤ 100000) :
    Calls Try.prog 22 #[.slice A es.length c, .agg #[.int .i64 x, .int .i64 y]] w fun e w' => ∃ v, e = .returned v ∧ w'.ownsRow w.heap.size 39 2 v (es.length + 1) (pcells (putE es (x, y))) ∧ Below w.heap.size w w' := by
  go_enter Try.func22, Try.ntmps22
  go_wp2
  generalize hW : w.alloc (Obj.cells #[Value.int IntKind.i64 x, Value.int IntKind.i64 y] 39) = W
  have hbW : Below w.heap.size w W := by rw [← hW]; (repeat (first | with_reducible exact Below.refl _ _ | with_reducible assumption | with_reducible refine below_drewN0 ?_ _ | with_reducible refine Below.drew ?_ | with_reducible refine Below.alloc ?_ ?_ _ | with_reducible refine Below.setCell ?_ ?_ _ | go_size | exact Below.size (by assumption)))
  have hr1 := hr.below hbW
  have hg0 : W.cell? ⟨w.heap.size, 0, none⟩ = some (.int .i64 x) := by rw [← hW]; simp [go_sem]
  have hg1 : W.cell? ⟨w.heap.size, 1, none⟩ = some (.int .i64 y) := by rw [← hW]; simp [go_sem]
  have hgW : w.heap.size < W.heap.size := by rw [← hW]; simp
  clear hW hr
  go_loopw [5] (fun i wr => ∃ k : Nat, k ≤ es.length ∧ i = .int .i64 k ∧ Hid (putK es (x, y) es.length = putK es (x, y) k) ∧ Below W.heap.size W wr) (fun i _ => (intOf i).toNat)
  case atStart => exact ⟨es.length, Nat.le_refl _, rfl, rfl, Below.refl _ _⟩
  case round =>
    obtain ⟨k, hk, rfl, hok, hb⟩ := hrel
    have hg0' := (hb.cell (p := ⟨w.heap.size, 0, none⟩) hgW).trans hg0
    have hg1' := (hb.cell (p := ⟨w.heap.size, 1, none⟩) hgW).trans hg1
    have hfin : ∀ w', Below W.heap.size wr w' → Below w.heap.size w w' := fun w' h' => hbW.trans ((hb.trans h').mono hbW.size)
    have hWr : W.heap.size ≤ wr.heap.size := hb.size
    have hgr : w.heap.size < wr.heap.size := Nat.lt_of_lt_of_le hgW hb.size
    cases k with
    | zero =>
      (go_wp2_with fail
       refine wp_quiet_tail 9 (by kernel_rfl) (by kernel_rfl) ?_
       simp only [List.take_succ_cons, List.take_zero, List.drop_succ_cons, List.drop_zero]
       repeat (go_big_quiet_step (fail))
       refine wpQuiet_nil ?_
       intro _ hw'
       obtain ⟨nq, hw''⟩ := hw'
       subst hw'')
      go_wp2_with fail
      have hr2 := hr1.below hb
      have hS : ∀ w', Below wr.heap.size wr w' → w'.cell? ⟨w.heap.size, 0, none⟩ = some (.int .i64 x) ∧ w'.cell? ⟨w.heap.size, 1, none⟩ = some (.int .i64 y) := fun w' h' => ⟨(h'.cell (p := ⟨w.heap.size, 0, none⟩) hgr).trans hg0', (h'.cell (p := ⟨w.heap.size, 1, none⟩) hgr).trans hg1'⟩
      have HK0 : Hid (putK es (x, y) es.length = 0) := hok
      have hW0 : Below W.heap.size wr wr := Below.refl _ _
      clear hr1
      (have hlen := pcells_length es
       have hk1 : 0 ≤ es.length := by omega
       have HS := Lib.hid hS
       have HRT : Hid (Reads wr A (pcells (es.take 0))) := by
         have := (hr2).cut c 0 0 2 (Nat.zero_le _) (by rw [hlen]; omega) (by rw [hlen]; omega) (by omega)
         rw [pcells_take]
         by_cases hc0 : c = 0
         · have : pcells es = [] := List.eq_nil_of_length_eq_zero (by rw [hlen]; omega)
           exact .inl (by rw [this]; simp)
         · rw [if_neg hc0] at this
           simp only [Nat.zero_mul, List.drop_zero] at this
           rcases hr2 with h | ⟨b9, o9, h9, _⟩
           · exact .inl (by rw [h]; simp)
           · rw [h9] at this ⊢
             rwa [show ((some (⟨b9, o9, none⟩ : Addr)).map (·.add 0)) = some ⟨b9, o9, none⟩ by simp [Addr.add]] at this
       have HRD : Hid (Reads wr (if c = 0 then A else (A).map (·.add (0 * 2))) (pcells (es.drop 0))) := by
         have := (hr2).cut c 0 es.length 2 hk1 (by rw [hlen]; omega) (by rw [hlen]; omega) (by omega)
         rw [pcells_drop]
         rwa [List.take_of_length_le (by rw [hlen]; omega)] at this
       have HL1 : Hid ((pcells (es.take 0)).length = 0 * 2) := by unfold Hid; rw [pcells_length]; simp; try omega
       have HL2 : Hid ((pcells (es.drop 0)).length = (es.length - 0) * 2) := by unfold Hid; rw [pcells_length]; simp; try omega
       have HRD0 : Hid (Reads wr A (pcells (es.drop 0))) := hr2
       clear hlen
       go_region_held3 (fun w' => w'.cell? ⟨w.heap.size, 0, none⟩ = some (.int .i64 x) ∧ w'.cell? ⟨w.heap.size, 1, none⟩ = some (.int .i64 y)) (first | exact HS.out _ hb3 | exact HS.out _ hb2 | exact HS.out _ hb1 | exact HS.out _ (Below.alloc hb1 hb1.size _) | (refine HS.out _ ?_; (repeat (first | with_reducible exact Below.refl _ _ | with_reducible assumption | with_reducible refine below_drewN0 ?_ _ | with_reducible refine Below.drew ?_ | with_reducible refine Below.alloc ?_ ?_ _ | with_reducible refine Below.setCell ?_ ?_ _ | go_size | exact Below.size (by assumption))); done))
         (first
           | (refine step_app EI_ent rfl (.const (.slice none 0 0)) (.tmp 23) rfl (wr).heap.size (.slice none 0 0) 0 [] rfl (own_nil0 _ _ _ _) _ 0 _ (pcells (es.take 0)) rfl ?_ HL1.out (pcells_one _) ?_ ?_ ?_
              · exact HRT.out.below (by (repeat (first | with_reducible exact Below.refl _ _ | with_reducible assumption | with_reducible refine below_drewN0 ?_ _ | with_reducible refine Below.drew ?_ | with_reducible refine Below.alloc ?_ ?_ _ | with_reducible refine Below.setCell ?_ ?_ _ | go_size | exact Below.size (by assumption))))
              · omega
              · go_size
              intro v1 w1 hown1 hg1 hat1
              have hb1 : Below (wr).heap.size wr w1 := below_app (by (repeat (first | with_reducible exact Below.refl _ _ | with_reducible assumption | with_reducible refine below_drewN0 ?_ _ | with_reducible refine Below.drew ?_ | with_reducible refine Below.alloc ?_ ?_ _ | with_reducible refine Below.setCell ?_ ?_ _ | go_size | exact Below.size (by assumption)))) hg1 (by go_size) (by simp [Value.ownBlock]))
           | (refine step_app EI_ent rfl (.tmp 24) (.tmp 26) rfl (wr).heap.size v1 (0 + 0) ([] ++ pcells (es.take 0)) rfl ?_ (some ⟨_, 0, none⟩) 1 1 [.int .i64 x, .int .i64 y] rfl ?_ rfl ?_ ?_ ?_ ?_
              · first | exact hown1 | exact own_below0 hown1 (by (repeat (first | with_reducible exact Below.refl _ _ | with_reducible assumption | with_reducible refine below_drewN0 ?_ _ | with_reducible refine Below.drew ?_ | with_reducible refine Below.alloc ?_ ?_ _ | with_reducible refine Below.setCell ?_ ?_ _ | go_size | exact Below.size (by assumption))))
              · (first | exact reads_new _ [_, _] _ | (refine Reads.grown ?_ hg1 (by simp [Value.ownBlock]); exact reads_new _ [_, _] _))
              · simp [Value.oneCell']
              · omega
              · first | exact hb1.size | (have := hb1.size; go_size)
              intro v2 w2 hown2 hg2 hat2
              have hb2 : Below (wr).heap.size wr w2 := (by first | exact below_app hb1 hg2 hb1.size (fun g hg => (own_lt0 hown1 g hg).1) | exact below_app (Below.alloc hb1 hb1.size _) hg2 (by have := hb1.size; go_size) (fun g hg => (own_lt0 hown1 g hg).1)))
           | (refine step_app EI_ent rfl (.tmp 27) (.tmp 30) rfl (wr).heap.size v2 (0 + 0 + 1) _ rfl hown2 _ (es.length - 0) _ (pcells (es.drop 0)) rfl ?_ HL2.out (pcells_one _) ?_ ?_ ?_
              · first | exact HRD.out.below hb2 | exact HRD0.out.below hb2
              · omega
              · exact hb2.size
              intro v3 w3 hown3 hg3 hat3
              have hb3 : Below (wr).heap.size wr w3 := below_app hb2 hg3 hb2.size (fun g hg => (own_lt0 hown2 g hg).1)))
       all_goals go_wp2_with fail
       all_goals
         go_ret
         refine ⟨v3, rfl, own_cast hown3 (by have := hbW.size; have := hb.size; omega) (by omega) ?_, hfin _ (Below.trans hW0 (hb3.mono (by have := (hW0).size; omega)))⟩
         rw [putE, HK0.out, pcells_append]
         simp [pcells])
    | succ j =>
      obtain ⟨⟨x', y'⟩, hxy⟩ : ∃ e, es[j]? = some e := ⟨es[j], by simp⟩
      obtain ⟨b, o, rfl, hbl, e1, e2⟩ := (hr1.below hb).pair' j _ hxy
      have HXY := Lib.hid hxy
      clear hxy
      have HA := fun W => aheadQ x y x' y' W
      rw [ahead_cmp] at HA
      have HK : Hid (putK es (x, y) (j + 1) = if ltE (x, y) (x', y') = true then putK es (x, y) j else j + 1) := by
        unfold Hid
        conv => lhs; unfold putK
        rw [HXY.out]
      unfold ltE at HK
      dsimp only at HK
      generalize decide (cmpE x y x' y' < 0) = cp at HA HK
      have hr2 := hr1.below hb
      cases cp with
      | true =>
        (go_wp2_with fail
         refine wp_quiet_tail 9 (by kernel_rfl) (by kernel_rfl) ?_
         simp only [List.take_succ_cons, List.take_zero, List.drop_succ_cons, List.drop_zero]
         repeat (go_big_quiet_step (fail))
         refine wpQuiet_nil ?_
         intro _ hw'
         obtain ⟨nq, hw''⟩ := hw'
         subst hw'')
        go_wp2_with (go_at_call 64; refine (HA _).mono ?_; rintro e w1 ⟨rfl, hb1⟩)
        go_roundw
        case rel => exact ⟨j, by omega, rfl, hok.out.trans HK.out, hb.trans (Below.trans (by (repeat (first | with_reducible exact Below.refl _ _ | with_reducible assumption | with_reducible refine below_drewN0 ?_ _ | with_reducible refine Below.drew ?_ | with_reducible refine Below.alloc ?_ ?_ _ | with_reducible refine Below.setCell ?_ ?_ _ | go_size | exact Below.size (by assumption)))) (hb1.mono (by simp; omega)))⟩
        case measure => simp [intOf]
      | false =>
        (go_wp2_with fail
         refine wp_quiet_tail 9 (by kernel_rfl) (by kernel_rfl) ?_
         simp only [List.take_succ_cons, List.take_zero, List.drop_succ_cons, List.drop_zero]
         repeat (go_big_quiet_step (fail))
         refine wpQuiet_nil ?_
         intro _ hw'
         obtain ⟨nq, hw''⟩ := hw'
         subst hw'')
        go_wp2_with (go_at_call 64; refine (HA _).mono ?_; rintro e wc ⟨rfl, hbc0⟩)
        have hbc : Below wr.heap.size wr wc := Below.trans (by (repeat (first | with_reducible exact Below.refl _ _ | with_reducible assumption | with_reducible refine below_drewN0 ?_ _ | with_reducible refine Below.drew ?_ | with_reducible refine Below.alloc ?_ ?_ _ | with_reducible refine Below.setCell ?_ ?_ _ | go_size | exact Below.size (by assumption)))) (hbc0.mono (by simp))
        have hrc := hr2.below hbc
        have hsc := hbc.size
        have hS : ∀ w', Below wc.heap.size wc w' → w'.cell? ⟨w.heap.size, 0, none⟩ = some (.int .i64 x) ∧ w'.cell? ⟨w.heap.size, 1, none⟩ = some (.int .i64 y) := fun w' h' => ⟨((h'.cell (p := ⟨w.heap.size, 0, none⟩) (Nat.lt_of_lt_of_le hgr hsc)).trans (hbc.cell (p := ⟨w.heap.size, 0, none⟩) hgr)).trans hg0', ((h'.cell (p := ⟨w.heap.size, 1, none⟩) (Nat.lt_of_lt_of_le hgr hsc)).trans (hbc.cell (p := ⟨w.heap.size, 1, none⟩) hgr)).trans hg1'⟩
        have HK0 : Hid (putK es (x, y) es.length = j + 1) := hok.out.trans HK.out
        have hW0 : Below W.heap.size wr wc := hbc.mono hWr
        clear hbc0 hr1 hr2 hg0' hg1' e1 e2 HA HK HXY hok
        have q0 : (0 : Int) ≤ (j : Int) + 1 := by omega
        have q1 : (j : Int) + 1 ≤ (c : Int) := by omega
        have q2 : (j : Int) + 1 ≤ (es.length : Int) := by omega
        have q3 : ((j : Int) + 1).toNat = j + 1 := by omega
        (have hlen := pcells_length es
         have hk1 : (j + 1) ≤ es.length := by omega
         have HS := Lib.hid hS
         have HRT : Hid (Reads wc (some (⟨b, o, none⟩ : Addr)) (pcells (es.take (j + 1)))) := by
           have := (hrc).cut c 0 (j + 1) 2 (Nat.zero_le _) (by rw [hlen]; omega) (by rw [hlen]; omega) (by omega)
           rw [pcells_take]
           by_cases hc0 : c = 0
           · have : pcells es = [] := List.eq_nil_of_length_eq_zero (by rw [hlen]; omega)
             exact .inl (by rw [this]; simp)
           · rw [if_neg hc0] at this
             simp only [Nat.zero_mul, List.drop_zero] at this
             rcases hrc with h | ⟨b9, o9, h9, _⟩
             · exact .inl (by rw [h]; simp)
             · rw [h9] at this ⊢
               rwa [show ((some (⟨b9, o9, none⟩ : Addr)).map (·.add 0)) = some ⟨b9, o9, none⟩ by simp [Addr.add]] at this
         have HRD : Hid (Reads wc (if c = (j + 1) then (some (⟨b, o, none⟩ : Addr)) else ((some (⟨b, o, none⟩ : Addr))).map (·.add ((j + 1) * 2))) (pcells (es.drop (j + 1)))) := by
           have := (hrc).cut c (j + 1) es.length 2 hk1 (by rw [hlen]; omega) (by rw [hlen]; omega) (by omega)
           rw [pcells_drop]
           rwa [List.take_of_length_le (by rw [hlen]; omega)] at this
         have HL1 : Hid ((pcells (es.take (j + 1))).length = (j + 1) * 2) := by unfold Hid; rw [pcells_length]; simp; try omega
         have HL2 : Hid ((pcells (es.drop (j + 1))).length = (es.length - (j + 1)) * 2) := by unfold Hid; rw [pcells_length]; simp; try omega
         have HRD0 : Hid (Reads wc (some (⟨b, o, none⟩ : Addr)) (pcells (es.drop 0))) := hrc
         clear hlen
         go_region_held3 (fun w' => w'.cell? ⟨w.heap.size, 0, none⟩ = some (.int .i64 x) ∧ w'.cell? ⟨w.heap.size, 1, none⟩ = some (.int .i64 y)) (first | exact HS.out _ hb3 | exact HS.out _ hb2 | exact HS.out _ hb1 | exact HS.out _ (Below.alloc hb1 hb1.size _) | (refine HS.out _ ?_; (repeat (first | with_reducible exact Below.refl _ _ | with_reducible assumption | with_reducible refine below_drewN0 ?_ _ | with_reducible refine Below.drew ?_ | with_reducible refine Below.alloc ?_ ?_ _ | with_reducible refine Below.setCell ?_ ?_ _ | go_size | exact Below.size (by assumption))); done))
           (first
             | (refine step_app EI_ent rfl (.const (.slice none 0 0)) (.tmp 23) rfl (wc).heap.size (.slice none 0 0) 0 [] rfl (own_nil0 _ _ _ _) _ (j + 1) _ (pcells (es.take (j + 1))) rfl ?_ HL1.out (pcells_one _) ?_ ?_ ?_
                · exact HRT.out.below (by (repeat (first | with_reducible exact Below.refl _ _ | with_reducible assumption | with_reducible refine below_drewN0 ?_ _ | with_reducible refine Below.drew ?_ | with_reducible refine Below.alloc ?_ ?_ _ | with_reducible refine Below.setCell ?_ ?_ _ | go_size | exact Below.size (by assumption))))
                · omega
                · go_size
                intro v1 w1 hown1 hg1 hat1
                have hb1 : Below (wc).heap.size wc w1 := below_app (by (repeat (first | with_reducible exact Below.refl _ _ | with_reducible assumption | with_reducible refine below_drewN0 ?_ _ | with_reducible refine Below.drew ?_ | with_reducible refine Below.alloc ?_ ?_ _ | with_reducible refine Below.setCell ?_ ?_ _ | go_size | exact Below.size (by assumption)))) hg1 (by go_size) (by simp [Value.ownBlock]))
             | (refine step_app EI_ent rfl (.tmp 24) (.tmp 26) rfl (wc).heap.size v1 (0 + (j + 1)) ([] ++ pcells (es.take (j + 1))) rfl ?_ (some ⟨_, 0, none⟩) 1 1 [.int .i64 x, .int .i64 y] rfl ?_ rfl ?_ ?_ ?_ ?_
                · first | exact hown1 | exact own_below0 hown1 (by (repeat (first | with_reducible exact Below.refl _ _ | with_reducible assumption | with_reducible refine below_drewN0 ?_ _ | with_reducible refine Below.drew ?_ | with_reducible refine Below.alloc ?_ ?_ _ | with_reducible refine Below.setCell ?_ ?_ _ | go_size | exact Below.size (by assumption))))
                · (first | exact reads_new _ [_, _] _ | (refine Reads.grown ?_ hg1 (by simp [Value.ownBlock]); exact reads_new _ [_, _] _))
                · simp [Value.oneCell']
                · omega
                · first | exact hb1.size | (have := hb1.size; go_size)
                intro v2 w2 hown2 hg2 hat2
                have hb2 : Below (wc).heap.size wc w2 := (by first | exact below_app hb1 hg2 hb1.size (fun g hg => (own_lt0 hown1 g hg).1) | exact below_app (Below.alloc hb1 hb1.size _) hg2 (by have := hb1.size; go_size) (fun g hg => (own_lt0 hown1 g hg).1)))
             | (refine step_app EI_ent rfl (.tmp 27) (.tmp 30) rfl (wc).heap.size v2 (0 + (j + 1) + 1) _ rfl hown2 _ (es.length - (j + 1)) _ (pcells (es.drop (j + 1))) rfl ?_ HL2.out (pcells_one _) ?_ ?_ ?_
                · first | exact HRD.out.below hb2 | exact HRD0.out.below hb2
                · omega
                · exact hb2.size
                intro v3 w3 hown3 hg3 hat3
                have hb3 : Below (wc).heap.size wc w3 := below_app hb2 hg3 hb2.size (fun g hg => (own_lt0 hown2 g hg).1)))
         all_goals go_wp2_with fail
         all_goals
           go_ret
           refine ⟨v3, rfl, own_cast hown3 (by have := hbW.size; have := hb.size; omega) (by omega) ?_, hfin _ (Below.trans hW0 (hb3.mono (by have := (hW0).size; omega)))⟩
           rw [putE, HK0.out, pcells_append]
           simp [pcells])

end Go.Proofs.Ytglhdoibglafbaa

/- The queue told by what is in it, in order; its waking call; the reference's Sorted. -/
namespace Go.Proofs.Ytglhdoibglafbaa
open Go Go.RowKit
set_option maxRecDepth 100000
set_option linter.unusedVariables false

/-- A queue of what F tells, in order. -/
def QF (w : World) (q B : Nat) (v : Value) (F : List PE) : Prop := ∃ es : List PE, QAt w q B v es ∧ HeapN es es.length ∧ es.Perm F ∧ InOrder F

theorem QF.below {w w' : World} {q B : Nat} {v : Value} {F : List PE} (h : QF w q B v F) (hb : Below w.heap.size w w') : QF w' q B v F := by
  obtain ⟨es, h1, h2, h3, h4⟩ := h
  exact ⟨es, h1.below hb, h2, h3, h4⟩
theorem QF.lt {w : World} {q B : Nat} {v : Value} {F : List PE} (h : QF w q B v F) : q < w.heap.size ∧ q < B ∧ ∀ g, v.ownBlock = some g → B ≤ g ∧ g < w.heap.size := by
  obtain ⟨es, h1, h2, h3, h4⟩ := h
  exact ⟨h1.lt, h1.hB, fun g hg => own_lt0 h1.own g hg⟩
theorem Touch.toBelow {q B0 : Nat} {v : Value} {a b : World} (h : Touch q v a b) (hq : B0 ≤ q) (hv : ∀ g, v.ownBlock = some g → B0 ≤ g) (hs : B0 ≤ a.heap.size) : Below B0 a b :=
  ⟨h.os, h.tape, h.output, h.size, fun k hk => h.block k (by omega) (by omega) (fun e => by have := hv k e; omega)⟩
/-- A row that the queue does not lie in. -/
def Sep (w : World) (q : Nat) (v : Value) (A : Option Addr) : Prop := ∀ a, A = some a → a.block < w.heap.size ∧ a.block ≠ q ∧ v.ownBlock ≠ some a.block
theorem Reads.touch {w w' : World} {q : Nat} {v : Value} {A : Option Addr} {cs : List Value} (h : Reads w A cs) (ht : Touch q v w w') (hs : Sep w q v A) : Reads w' A cs := by
  rcases h with h | ⟨b, o, rfl, hb, hc⟩
  · exact .inl h
  · obtain ⟨h1, h2, h3⟩ := hs _ rfl
    exact .inr ⟨b, o, rfl, Nat.lt_of_lt_of_le hb ht.size, fun j u hj => (World.cell?_of_block (a := ⟨b, o + j, none⟩) (ht.block b h1 h2 h3)).trans (hc j u hj)⟩
theorem Sep.push {w w' : World} {q : Nat} {v v' : Value} {A : Option Addr} (h : Sep w q v A) (hs : w.heap.size ≤ w'.heap.size) (hv : SameOr v v' w) : Sep w' q v' A := fun a ha => by
  obtain ⟨h1, h2, h3⟩ := h a ha
  refine ⟨by omega, h2, fun e => ?_⟩
  rcases hv _ e with h9 | h9
  · exact h3 h9
  · omega
theorem Touch.setnew {q : Nat} {v : Value} {a b : World} (h : Touch q v a b) {p : Addr} (hp : a.heap.size ≤ p.block) (u : Value) : Touch q v a (b.setCell p u) :=
  ⟨h.os, h.tape, h.output, by have := h.size; simpa [World.setCell] using this, fun k hk h1 h2 => (Below.heap_setCell _ _ _ _ (by omega)).trans (h.block k hk h1 h2)⟩
theorem QF.set {w : World} {q B : Nat} {v : Value} {F : List PE} (h : QF w q B v F) {a : Addr} (hq : q ≠ a.block) (hv : v.ownBlock ≠ some a.block) (u : Value) : QF (w.setCell a u) q B v F := by
  obtain ⟨es, h1, h2, h3, h4⟩ := h
  exact ⟨es, ⟨heap_far h1.blk hq u, own_far h1.own (fun g hg => Below.heap_setCell _ _ _ _ (fun e => hv (e ▸ hg))), h1.hB⟩, h2, h3, h4⟩
theorem SameOr.same {w : World} {v v' : Value} (h : v'.ownBlock = v.ownBlock) : SameOr v v' w := fun g hg => .inl (h ▸ hg)

theorem pushF (q B : Nat) (v : Value) (F : List PE) (x y : Int) (w : World) (hq : QF w q B v F) (hB : B ≤ w.heap.size) (hm : F.length < 2000000) :
    Calls Try.prog 19 #[.pointer (some ⟨q, 0, none⟩), .agg #[.int .i64 x, .int .i64 y]] w fun e w' => e = .returned (.int .i64 0) ∧ ∃ v', QF w' q B v' (putE F (x, y)) ∧ Touch q v w w' ∧ SameOr v v' w := by
  obtain ⟨es, h1, h2, h3, h4⟩ := hq
  refine (qPush q B v es x y w h1 h2 hB (by rw [h3.length_eq]; exact hm)).mono fun e w' h => ?_
  obtain ⟨v', es', he, hq', hp, hh, ht, hs⟩ := h
  exact ⟨he, v', ⟨es', hq', hh, hp.trans ((h3.cons _).trans (putE_perm F (x, y)).symm), putE_order _ h4⟩, ht, hs⟩

theorem peekF (q B : Nat) (v : Value) (x : PE) (F : List PE) (w : World) (hq : QF w q B v (x :: F)) :
    Calls Try.prog 23 #[.pointer (some ⟨q, 0, none⟩)] w fun e w' => e = .returned (.tuple #[.agg #[.int .i64 x.1, .int .i64 x.2], .int .i64 0]) ∧ Below w.heap.size w w' := by
  obtain ⟨es, h1, h2, h3, h4⟩ := hq
  obtain ⟨z, hz⟩ : ∃ z, es[0]? = some z := ⟨es[0]'(by rw [h3.length_eq]; simp), by simp⟩
  obtain rfl := heap_first h2 h3 h4 hz rfl
  exact qPeek q B v es z w h1 hz

theorem lenF (q B : Nat) (v : Value) (F : List PE) (w : World) (hq : QF w q B v F) : Calls Try.prog 24 #[.pointer (some ⟨q, 0, none⟩)] w fun e w' => e = .returned (.int .i64 (F.length : Int)) ∧ w = w' := by
  obtain ⟨es, h1, h2, h3, h4⟩ := hq
  rw [← h3.length_eq]
  exact qLen q B v es w h1

set_option maxHeartbeats 2000000 in
theorem popF (q B : Nat) (v : Value) (x : PE) (F : List PE) (w : World) (hq : QF w q B v (x :: F)) (hm : F.length ≤ 2000000) :
    Calls Try.prog 21 #[.pointer (some ⟨q, 0, none⟩)] w fun e w' => e = .returned (.tuple #[.agg #[.int .i64 x.1, .int .i64 x.2], .int .i64 0]) ∧ ∃ v', QF w' q B v' F ∧ Touch q v w w' ∧ v'.ownBlock = v.ownBlock := by
  have HPk := fun W hQ => peekF q B v x F W hQ
  have hPop : ∀ W, QF W q B v (x :: F) → Calls Try.prog 63 #[.iface 92 (.pointer (some ⟨q, 0, none⟩))] W fun e w' => (∃ u, e = .returned u) ∧ ∃ v', QF w' q B v' F ∧ Touch q v W w' ∧ v'.ownBlock = v.ownBlock := fun W hQ => by
    obtain ⟨es, h1, h2, h3, h4⟩ := hQ
    obtain ⟨z, hz⟩ : ∃ z, es[0]? = some z := ⟨es[0]'(by rw [h3.length_eq]; simp), by simp⟩
    obtain rfl := heap_first h2 h3 h4 hz rfl
    refine (hPop q B F.length v es z W h1 h2 hz (by rw [h3.length_eq]; simp) (by rw [h3.length_eq]; simp; omega)).mono fun e w' h => ?_
    obtain ⟨v', es', he, hq', hp, hh, ht, hv⟩ := h
    exact ⟨⟨_, he⟩, v', ⟨es', hq', hh, List.Perm.cons_inv (hp.trans h3), (List.pairwise_cons.1 h4).2⟩, ht, hv⟩
  have HQ := Lib.hid hq
  have hql := hq.lt.1
  have hvl := Lib.hid (fun g hg => (hq.lt.2.2 g hg).2)
  clear hq
  go_enter Try.func21, Try.ntmps21
  go_wp2_with (first
    | (go_at_call 23; go_loud (refine (HPk _ (HQ.out.below ?_)).mono ?_; (repeat (first | with_reducible exact Below.refl _ _ | with_reducible assumption | with_reducible refine below_drewN0 ?_ _ | with_reducible refine Below.drew ?_ | with_reducible refine Below.alloc ?_ ?_ _ | with_reducible refine Below.setCell ?_ ?_ _ | go_size | exact Below.size (by assumption))); rintro e w1 ⟨rfl, hb1⟩; have hw1 : Below w.heap.size w w1 := Below.trans (by (repeat (first | with_reducible exact Below.refl _ _ | with_reducible assumption | with_reducible refine below_drewN0 ?_ _ | with_reducible refine Below.drew ?_ | with_reducible refine Below.alloc ?_ ?_ _ | with_reducible refine Below.setCell ?_ ?_ _ | go_size | exact Below.size (by assumption)))) (hb1.mono (by simp)); have hg := blk2 ((hb1.block w.heap.size (by simp)).trans (heap_alloc_new w _)); obtain ⟨a0, a1, a2, a3, a4⟩ := hg))
    | (go_at_call 63; go_loud (
       refine (hPop _ (HQ.out.below ?_)).mono ?_
       · (repeat (first | with_reducible exact Below.refl _ _ | with_reducible assumption | with_reducible refine below_drewN0 ?_ _ | with_reducible refine Below.drew ?_ | with_reducible refine Below.alloc ?_ ?_ _ | with_reducible refine Below.setCell ?_ ?_ _ | go_size | exact Below.size (by assumption)))
       rintro e w2 ⟨⟨u, rfl⟩, v2, hq2, ht2, hv2⟩
       have hs1 := hw1.size
       obtain ⟨b0, b1, b2, b3, b4⟩ := blk2 ((ht2.block w1.heap.size (by simp) (by omega) (fun h9 => by have := hvl.out _ h9; omega)).trans (heap_alloc_new w1 _))
       obtain ⟨c0, c1, c2, c3, c4⟩ := blk2 ((ht2.block w.heap.size (by simp; omega) (by omega) (fun h9 => by have := hvl.out _ h9; omega)).trans (heap_old ((hb1.block w.heap.size (by simp)).trans (heap_alloc_new w _)))))))
  refine bodyPost_ret (v := .tuple #[.agg #[.int .i64 x.1, .int .i64 x.2], .int .i64 0]) (by simp [results, Try.results21, go_sem, c0, c1]) rfl ?_
  have hvn : v2.ownBlock ≠ some w.heap.size := fun h9 => by have := hvl.out _ (hv2 ▸ h9); omega
  exact ⟨rfl, v2, (hq2.set (a := ⟨w.heap.size, 0, none⟩) (by dsimp only; omega) hvn _).set (a := ⟨w.heap.size, 1, none⟩) (by dsimp only; omega) hvn _,
    ((((Touch.refl q v w).below (hw1.alloc hs1 _)).trans ht2).setnew (p := ⟨w.heap.size, 0, none⟩) (Nat.le_refl _) _).setnew (p := ⟨w.heap.size, 1, none⟩) (Nat.le_refl _) _, hv2⟩

theorem newF (w : World) : Calls Try.prog 17 #[] w fun e w' => e = .returned (.pointer (some ⟨w.heap.size, 0, none⟩)) ∧ QF w' w.heap.size (w.heap.size + 1) (.slice none 0 0) [] ∧ Below w.heap.size w w' ∧ w'.heap.size = w.heap.size + 1 :=
  (qNew w).mono fun e w' ⟨he, hq, hb, hs⟩ => ⟨he, ⟨[], hq, fun i h0 h1 => by simp at h1, List.Perm.refl _, List.Pairwise.nil⟩, hb, hs⟩

def sortL (l : List PE) : List PE := l.foldl putE []
theorem sortL_one (l : List PE) (k : Nat) (e : PE) (h : l[k]? = some e) : sortL (l.take (k + 1)) = putE (sortL (l.take k)) e := by
  unfold sortL
  rw [List.take_add_one, h]
  simp
theorem sortL_length (l : List PE) : (sortL l).length = l.length := by
  unfold sortL
  suffices h : ∀ (l F : List PE), (l.foldl putE F).length = F.length + l.length by simpa using h l []
  intro l
  induction l with
  | nil => intro F; simp
  | cons e l ih => intro F; rw [List.foldl_cons, ih, putE_length]; simp; omega

set_option maxHeartbeats 2000000 in
theorem sortedQ (l : List PE) (A : Option Addr) (c : Nat) (w : World) (hr : Reads w A (pcells l)) (hc : l.length ≤ c) (hm : l.length ≤ 90000) :
    Calls Try.prog 20 #[.slice A l.length c] w fun e w' => ∃ v, e = .returned v ∧ w'.ownsRow w.heap.size 39 2 v l.length (pcells (sortL l)) ∧ Below w.heap.size w w' := by
  go_enter Try.func20, Try.ntmps20
  go_wp2_with fail
  go_loopw [3, 4] (fun v3 i wr => ∃ k : Nat, k ≤ l.length ∧ i = .int .i64 k ∧ Hid (wr.ownsRow w.heap.size 39 2 v3 k (pcells (sortL (l.take k)))) ∧ Below w.heap.size w wr) (fun _ i _ => l.length - (intOf i).toNat)
  case atStart => exact ⟨0, Nat.zero_le _, rfl, own_nil0 _ _ _ _, Below.refl _ _⟩
  case round =>
    obtain ⟨k, hk, rfl, ho, hb⟩ := hrel
    obtain ⟨A3, c3, rfl, hc3, hr3⟩ := own_reads0 ho.out
    by_cases hlt : k < l.length
    · obtain ⟨e, he⟩ : ∃ e, l[k]? = some e := ⟨l[k], by simp [hlt]⟩
      obtain ⟨b, o, rfl, hbl, e1, e2⟩ := (hr.below hb).pair' k e he
      have HS := Lib.hid (sortL_one l k e he)
      have hsl : (sortL (l.take k)).length = k := by rw [sortL_length, List.length_take]; omega
      have HP := fun W hR => putQ (sortL (l.take k)) e.1 e.2 A3 c3 W hR (by rw [hsl]; exact hc3) (by rw [hsl]; omega)
      rw [hsl] at HP
      clear he hsl
      go_wp2_with (go_at_call 22; go_loud (refine (HP _ hr3).mono ?_; rintro e' w1 ⟨v1, rfl, ho1, hb1⟩))
      go_roundw
      case rel => exact ⟨k + 1, by omega, by go_num, by rw [HS.out]; exact own_cast ho1 hb.size rfl rfl, hb.trans (hb1.mono hb.size)⟩
      case measure => simp [intOf]; omega
    · obtain rfl : k = l.length := by omega
      go_wp2_with fail
      go_ret
      rw [List.take_length] at ho
      exact ⟨_, rfl, ho.out, hb⟩

end Go.Proofs.Ytglhdoibglafbaa

/- What is sorted is the list that reference's Put makes: plain. -/
namespace Go.Proofs.Ytglhdoibglafbaa
open Go Go.RowKit
set_option maxRecDepth 100000
set_option linter.unusedVariables false

theorem ord_eq : ∀ {l F : List PE}, InOrder l → InOrder F → l.Perm F → l = F
  | [], F, _, _, hp => (List.nil_perm.1 hp).symm
  | x :: l, [], _, _, hp => by have := hp.length_eq; simp at this
  | x :: l, y :: F, h1, h2, hp => by
    have g1 := List.pairwise_cons.1 h1
    have g2 := List.pairwise_cons.1 h2
    have hx : x ∈ y :: F := hp.mem_iff.1 (by simp)
    have hy : y ∈ x :: l := hp.mem_iff.2 (by simp)
    have hxy : x = y := by
      rcases List.mem_cons.1 hx with h | h
      · exact h
      rcases List.mem_cons.1 hy with h' | h'
      · exact h'.symm
      have a1 := g1.1 y h'
      have a2 := g2.1 x h
      unfold LtE at a1 a2
      apply Prod.ext <;> omega
    subst hxy
    rw [ord_eq g1.2 g2.2 (List.Perm.cons_inv hp)]

theorem sortL_perm (l : List PE) : (sortL l).Perm l := by
  unfold sortL
  suffices h : ∀ (l F : List PE), (l.foldl putE F).Perm (l ++ F) by simpa using h l []
  intro l
  induction l with
  | nil => intro F; exact List.Perm.refl _
  | cons e l ih =>
    intro F
    rw [List.foldl_cons]
    refine (ih _).trans ?_
    refine ((putE_perm F e).append_left l).trans ?_
    exact List.perm_middle
theorem sortL_order (l : List PE) : InOrder (sortL l) := by
  unfold sortL
  suffices h : ∀ (l F : List PE), InOrder F → InOrder (l.foldl putE F) from h l [] List.Pairwise.nil
  intro l
  induction l with
  | nil => intro F h; exact h
  | cons e l ih => intro F h; exact ih _ (putE_order e h)

theorem sorted_is (l : List PE) (d' : Array PE) (hp : Sort.PermIn 0 l.toArray.size l.toArray d') (hs : Sort.SortedIn (ltOf fun x y : PE => cmpE x.1 x.2 y.1 y.2) 0 l.toArray.size d') : d'.toList = sortL l := by
  obtain ⟨h1, _, h3⟩ := hp
  have hsz : d'.size = l.length := by simpa using h1
  have hpl : d'.toList.Perm l := by
    have e1 : d'.extract 0 l.toArray.size = d' := by rw [← h1]; simp
    have e2 : l.toArray.extract 0 l.toArray.size = l.toArray := by simp
    rw [e1, e2] at h3
    simpa using h3
  refine ord_eq ?_ (sortL_order l) (hpl.trans (sortL_perm l).symm)
  unfold InOrder
  refine List.pairwise_iff_getElem.2 fun i j hi hj hij hlt => ?_
  have h9 := hs i j (Nat.zero_le _) hij (by simpa [hsz] using hj)
  unfold ltOf at h9
  have h8 := of_decide_eq_false h9
  refine h8 ?_
  rw [cmpE_lt]
  have hi' : i < d'.size := by simpa using hi
  have hj' : j < d'.size := by simpa using hj
  rw [getElem!_pos d' i hi', getElem!_pos d' j hj']
  simpa using hlt

theorem swoE : Sort.SWO (ltOf fun x y : PE => cmpE x.1 x.2 y.1 y.2) := by
  have hT : ∀ x y : PE, ltOf (fun x y : PE => cmpE x.1 x.2 y.1 y.2) x y = true ↔ LtE x y := fun x y => by
    unfold ltOf
    rw [decide_eq_true_iff]
    exact cmpE_lt _ _ _ _
  have hF : ∀ x y : PE, ltOf (fun x y : PE => cmpE x.1 x.2 y.1 y.2) x y = false ↔ ¬ LtE x y := fun x y => by
    rw [← hT]; simp
  refine ⟨fun x => ?_, fun x y z h1 h2 => ?_, fun x y z h1 h2 => ?_⟩ <;> simp only [hT, hF] at * <;> unfold LtE at * <;> omega
end Go.Proofs.Ytglhdoibglafbaa

/- The plain law of a gadget's edges: what Lay sorts is what the document's double loop tells. -/
namespace Go.Proofs.Ytglhdoibglafbaa
open Go Go.RowKit
set_option maxRecDepth 100000
set_option linter.unusedVariables false

def nt (P : List Int) (v : Nat) : Nat := (P[v]?.getD 0).toNat
def off (P C : List Int) (k : Nat) : Nat := (placesL P C k).length
theorem off_succ (P C : List Int) (k : Nat) : off P C (k + 1) = off P C k + (nt P k + nt C k) := by
  unfold off; rw [placesL_succ]; simp only [List.length_append, prt_length, cor_length]; rfl
theorem off_mono (P C : List Int) {a : Nat} : ∀ {b : Nat}, a ≤ b → off P C a ≤ off P C b := by
  intro b
  induction b with
  | zero => intro h; obtain rfl : a = 0 := by omega
            exact Nat.le_refl _
  | succ b ih =>
    intro h
    by_cases he : a = b + 1
    · subst he; exact Nat.le_refl _
    · have := ih (by omega); have := off_succ P C b; omega
theorem prt_get (v k i : Nat) (h : i < k) : (prt v k)[i]? = some ((v : Int), (i : Int), false) := by simp [prt, h]
theorem cor_get (v k i : Nat) (h : i < k) : (cor v k)[i]? = some ((v : Int), (i : Int), true) := by simp [cor, h]
theorem pl_port (P C : List Int) (v i : Nat) (hi : i < nt P v) : ∀ m, v < m → (placesL P C m)[off P C v + i]? = some ((v : Int), (i : Int), false) := by
  intro m
  induction m with
  | zero => intro h; omega
  | succ m ih =>
    intro h
    rw [placesL_succ]
    by_cases he : v = m
    · subst he
      rw [List.getElem?_append_right (by unfold off; omega), show off P C v + i - (placesL P C v).length = i by unfold off; omega, List.getElem?_append_left (by rw [prt_length]; exact hi)]
      exact prt_get _ _ _ hi
    · have h1 := off_succ P C v
      have h2 := off_mono P C (show v + 1 ≤ m by omega)
      rw [List.getElem?_append_left (by change _ < off P C m; omega)]
      exact ih (by omega)
theorem pl_core (P C : List Int) (v i : Nat) (hi : i < nt C v) : ∀ m, v < m → (placesL P C m)[off P C v + (nt P v + i)]? = some ((v : Int), (i : Int), true) := by
  intro m
  induction m with
  | zero => intro h; omega
  | succ m ih =>
    intro h
    rw [placesL_succ]
    by_cases he : v = m
    · subst he
      rw [List.getElem?_append_right (by unfold off; omega), show off P C v + (nt P v + i) - (placesL P C v).length = nt P v + i by unfold off; omega, List.getElem?_append_right (by rw [prt_length]; unfold nt; omega), prt_length, show nt P v + i - (P[v]?.getD 0).toNat = i by unfold nt; omega]
      exact cor_get _ _ _ hi
    · have h1 := off_succ P C v
      have h2 := off_mono P C (show v + 1 ≤ m by omega)
      rw [List.getElem?_append_left (by change _ < off P C m; omega)]
      exact ih (by omega)
theorem off_inv (P C : List Int) (a : Nat) : ∀ m, a < off P C m → ∃ v, v < m ∧ ((∃ i, i < nt P v ∧ a = off P C v + i) ∨ (∃ i, i < nt C v ∧ a = off P C v + (nt P v + i))) := by
  intro m
  induction m with
  | zero => intro h; simp [off, placesL] at h
  | succ m ih =>
    intro h
    have h1 := off_succ P C m
    by_cases h2 : a < off P C m
    · obtain ⟨v, hv, hr⟩ := ih h2
      exact ⟨v, by omega, hr⟩
    · by_cases h3 : a < off P C m + nt P m
      · exact ⟨m, by omega, .inl ⟨a - off P C m, by omega, by omega⟩⟩
      · exact ⟨m, by omega, .inr ⟨a - off P C m - nt P m, by omega, by omega⟩⟩

/- What Lay makes ahead of its sort. -/
def stR (x : Int) (p i k : Nat) : List PE := (List.range k).map fun (t : Nat) => (x + (i : Int), x + ((p : Int) + (t : Int)))
def stI (x : Int) (p c i : Nat) : List PE := (List.range i).flatMap fun j => stR x p j c
def stL (F P C : List Int) (v : Nat) : List PE := (List.range v).flatMap fun u => stI (F[u]?.getD 0) (nt P u) (nt C u) (nt P u)
theorem stR_succ (x : Int) (p i k : Nat) : stR x p i (k + 1) = stR x p i k ++ [(x + (i : Int), x + ((p : Int) + (k : Int)))] := by simp [stR, List.range_succ]
theorem stI_succ (x : Int) (p c i : Nat) : stI x p c (i + 1) = stI x p c i ++ stR x p i c := by simp [stI, List.range_succ]
theorem stL_succ (F P C : List Int) (v : Nat) : stL F P C (v + 1) = stL F P C v ++ stI (F[v]?.getD 0) (nt P v) (nt C v) (nt P v) := by simp [stL, List.range_succ]
theorem stR_length (x : Int) (p i k : Nat) : (stR x p i k).length = k := by simp [stR]
def slotL (F : List Int) (es : List PE) (a b : Int) : Int := F[a.toNat]?.getD 0 + ((nearL es a).idxOf b : Int)
def pairE (F : List Int) (es : List PE) (e : PE) : PE := (slotL F es e.1 e.2, slotL F es e.2 e.1)
def mmE (e : PE) : PE := (min e.1 e.2, max e.1 e.2)
def layL (F P C : List Int) (m : Nat) (es : List PE) : List PE := stL F P C m ++ (es.map (pairE F es)).map mmE

/- What the document's double loop makes. -/
def joinB (es : List PE) (x y : Pl) : Bool :=
  if x.1 = y.1 then x.2.2 != y.2.2 else (!x.2.2 && !y.2.2) && (decide ((nearL es x.1)[x.2.1.toNat]? = some y.1) && decide ((nearL es y.1)[y.2.1.toNat]? = some x.1))
def atP (l : List Pl) (a : Nat) : Pl := l[a]?.getD (0, 0, false)
def rfR (es : List PE) (l : List Pl) (a b : Nat) : List PE := ((List.range b).filter fun t => decide (a < t) && joinB es (atP l a) (atP l t)).map fun (t : Nat) => ((a : Int), (t : Int))
def rfL (es : List PE) (l : List Pl) (a : Nat) : List PE := (List.range a).flatMap fun s => rfR es l s l.length
theorem rfR_succ (es : List PE) (l : List Pl) (a b : Nat) : rfR es l a (b + 1) = if a < b ∧ joinB es (atP l a) (atP l b) = true then rfR es l a b ++ [((a : Int), (b : Int))] else rfR es l a b := by
  unfold rfR
  rw [List.range_succ, List.filter_append, List.map_append]
  by_cases h : a < b ∧ joinB es (atP l a) (atP l b) = true
  · rw [if_pos h]; simp [h.1, h.2]
  · rw [if_neg h]
    have h' : (decide (a < b) && joinB es (atP l a) (atP l b)) = false := by
      by_cases h1 : a < b
      · by_cases h2 : joinB es (atP l a) (atP l b) = true
        · exact absurd ⟨h1, h2⟩ h
        · simp [h2]
      · simp [h1]
    simp [h']
theorem rfR_low (es : List PE) (l : List Pl) (a : Nat) : ∀ b, b ≤ a + 1 → rfR es l a b = [] := by
  intro b
  induction b with
  | zero => intro _; rfl
  | succ b ih => intro h; rw [rfR_succ, if_neg (by omega), ih (by omega)]
theorem rfL_succ (es : List PE) (l : List Pl) (a : Nat) : rfL es l (a + 1) = rfL es l a ++ rfR es l a l.length := by simp [rfL, List.range_succ]
theorem mem_rfL (es : List PE) (l : List Pl) (n : Nat) (e : PE) : e ∈ rfL es l n ↔ ∃ a b : Nat, a < n ∧ b < l.length ∧ a < b ∧ joinB es (atP l a) (atP l b) = true ∧ e = ((a : Int), (b : Int)) := by
  unfold rfL rfR
  simp only [List.mem_flatMap, List.mem_range, List.mem_map, List.mem_filter, Bool.and_eq_true, decide_eq_true_eq]
  constructor
  · rintro ⟨a, ha, b, ⟨hb, hab, hj⟩, rfl⟩; exact ⟨a, b, ha, hb, hab, hj, rfl⟩
  · rintro ⟨a, b, ha, hb, hab, hj, rfl⟩; exact ⟨a, ha, b, ⟨hb, hab, hj⟩, rfl⟩
theorem rfL_inc (es : List PE) (l : List Pl) (n : Nat) : (rfL es l n).Pairwise LtE := by
  unfold rfL
  rw [List.pairwise_flatMap]
  refine ⟨fun a _ => ?_, ?_⟩
  · unfold rfR
    rw [List.pairwise_map]
    refine (List.Pairwise.filter _ List.pairwise_lt_range).imp ?_
    intro x y h
    unfold LtE; simp; exact h
  · refine List.pairwise_lt_range.imp ?_
    intro a b hab x hx y hy
    unfold rfR at hx hy
    simp only [List.mem_map] at hx hy
    obtain ⟨s, _, rfl⟩ := hx
    obtain ⟨t, _, rfl⟩ := hy
    unfold LtE; simp; omega
theorem inc_order {l : List PE} (h : l.Pairwise LtE) : InOrder l := by
  refine h.imp ?_
  intro a b hab hba
  exact LtE.irrefl a (hab.trans hba)
theorem inc_nodup {l : List PE} (h : l.Pairwise LtE) : l.Nodup := by
  refine h.imp ?_
  intro a b hab he
  rw [← he] at hab
  exact LtE.irrefl a hab

section
variable (m : Nat) (es : List PE) (F P C : List Int)
/-- What the law's plain part knows of a gadget. -/
structure GadOk : Prop where
  R : RightP m es
  hP : ∀ v : Nat, v < m → nt P v = (nearL es (v : Int)).length
  hF : ∀ v : Nat, v < m → F[v]?.getD 0 = (off P C v : Int)
variable {m es F P C}
theorem mem_stL (G : GadOk m es F P C) (e : PE) : e ∈ stL F P C m ↔ ∃ v i k : Nat, v < m ∧ i < nt P v ∧ k < nt C v ∧ e = (((off P C v + i : Nat) : Int), ((off P C v + (nt P v + k) : Nat) : Int)) := by
  unfold stL stI stR
  simp only [List.mem_flatMap, List.mem_range, List.mem_map]
  constructor
  · rintro ⟨v, hv, i, hi, k, hk, rfl⟩
    exact ⟨v, i, k, hv, hi, hk, by rw [G.hF v hv]; apply Prod.ext <;> simp⟩
  · rintro ⟨v, i, k, hv, hi, hk, rfl⟩
    exact ⟨v, hv, i, hi, k, hk, by rw [G.hF v hv]; apply Prod.ext <;> simp⟩
theorem stL_inc (G : GadOk m es F P C) : (stL F P C m).Pairwise LtE := by
  unfold stL stI stR
  rw [List.pairwise_flatMap]
  refine ⟨fun v hv => ?_, ?_⟩
  · rw [List.pairwise_flatMap]
    refine ⟨fun i _ => ?_, ?_⟩
    · rw [List.pairwise_map]
      refine List.pairwise_lt_range.imp ?_
      intro x y h
      unfold LtE; simp; omega
    · refine List.pairwise_lt_range.imp ?_
      intro a b hab x hx y hy
      simp only [List.mem_map] at hx hy
      obtain ⟨s, _, rfl⟩ := hx
      obtain ⟨t, _, rfl⟩ := hy
      unfold LtE; simp; omega
  · refine List.Pairwise.imp_of_mem ?_ List.pairwise_lt_range
    intro a b ha hb hab x hx y hy
    have ha' := List.mem_range.1 ha
    have hb' := List.mem_range.1 hb
    simp only [List.mem_flatMap, List.mem_map, List.mem_range] at hx hy
    obtain ⟨i, hi, s, hs, rfl⟩ := hx
    obtain ⟨j, hj, t, ht, rfl⟩ := hy
    rw [G.hF a ha', G.hF b hb']
    have h1 := off_succ P C a
    have h2 := off_mono P C (show a + 1 ≤ b by omega)
    unfold LtE; simp; omega
/-- A place of a neighbour. -/
theorem slot_at (G : GadOk m es F P C) (a b : Nat) (ha : a < m) (hb : (b : Int) ∈ nearL es (a : Int)) : ∃ i, i < nt P a ∧ slotL F es a b = ((off P C a + i : Nat) : Int) ∧ (nearL es (a : Int))[i]? = some (b : Int) := by
  have h1 := List.idxOf_lt_length_of_mem hb
  refine ⟨(nearL es (a : Int)).idxOf (b : Int), by rw [G.hP a ha]; exact h1, ?_, ?_⟩
  · unfold slotL; rw [Int.toNat_natCast, G.hF a ha]; simp
  · rw [List.getElem?_eq_getElem h1, List.getElem_idxOf h1]
theorem edge_near (G : GadOk m es F P C) {e : PE} (he : e ∈ es) : ∃ a b : Nat, e = ((a : Int), (b : Int)) ∧ a < b ∧ b < m ∧ (b : Int) ∈ nearL es (a : Int) ∧ (a : Int) ∈ nearL es (b : Int) := by
  obtain ⟨x, y⟩ := e
  have h := G.R.ok _ he
  simp at h
  refine ⟨x.toNat, y.toNat, by apply Prod.ext <;> simp <;> omega, by omega, by omega, ?_, ?_⟩
  · rw [Int.toNat_of_nonneg (by omega), Int.toNat_of_nonneg (by omega)]; exact mem_nearL.2 (.inr he)
  · rw [Int.toNat_of_nonneg (by omega), Int.toNat_of_nonneg (by omega)]; exact mem_nearL.2 (.inl he)
/-- An edge's pair of ports. -/
theorem pair_at (G : GadOk m es F P C) {e : PE} (he : e ∈ es) : ∃ a b i j : Nat, e = ((a : Int), (b : Int)) ∧ a < b ∧ b < m ∧ i < nt P a ∧ j < nt P b ∧ (nearL es (a : Int))[i]? = some (b : Int) ∧ (nearL es (b : Int))[j]? = some (a : Int) ∧
    pairE F es e = (((off P C a + i : Nat) : Int), ((off P C b + j : Nat) : Int)) ∧ off P C a + i < off P C b + j := by
  obtain ⟨a, b, rfl, hab, hbm, h1, h2⟩ := edge_near G he
  obtain ⟨i, hi, e1, g1⟩ := slot_at G a b (by omega) h1
  obtain ⟨j, hj, e2, g2⟩ := slot_at G b a hbm h2
  refine ⟨a, b, i, j, rfl, hab, hbm, hi, hj, g1, g2, ?_, ?_⟩
  · unfold pairE; rw [e1, e2]
  · have h1 := off_succ P C a
    have h2 := off_mono P C (show a + 1 ≤ b by omega)
    omega
theorem pair_mm (G : GadOk m es F P C) {e : PE} (he : e ∈ es) : mmE (pairE F es e) = pairE F es e := by
  obtain ⟨a, b, i, j, rfl, hab, hbm, hi, hj, g1, g2, e1, hl⟩ := pair_at G he
  rw [e1]; unfold mmE; apply Prod.ext <;> simp <;> omega
theorem pairs_eq (G : GadOk m es F P C) : (es.map (pairE F es)).map mmE = es.map (pairE F es) := by
  rw [List.map_map]
  exact List.map_congr_left fun e he => pair_mm G he
theorem pairs_inc (G : GadOk m es F P C) : (es.map (pairE F es)).Pairwise LtE := by
  rw [List.pairwise_map]
  refine List.Pairwise.imp_of_mem ?_ G.R.inc
  intro e d he hd hed
  obtain ⟨a, b, i, j, rfl, hab, hbm, hi, hj, g1, g2, e1, hl⟩ := pair_at G he
  obtain ⟨a', b', i', j', rfl, hab', hbm', hi', hj', g1', g2', e1', hl'⟩ := pair_at G hd
  rw [e1, e1']
  unfold LtE at hed ⊢
  simp only at hed ⊢
  left
  by_cases haa : a = a'
  · subst haa
    have hlt : i < i' := by
      rcases Nat.lt_trichotomy i i' with h | h | h
      · exact h
      · subst h; rw [g1] at g1'; cases g1'; omega
      · have hr := List.pairwise_iff_getElem.1 (nearL_rises G.R (a : Int)) i' i (List.getElem?_eq_some_iff.1 g1').1 (List.getElem?_eq_some_iff.1 g1).1 h
        rw [(List.getElem?_eq_some_iff.1 g1').2, (List.getElem?_eq_some_iff.1 g1).2] at hr
        omega
    omega
  · have h1 := off_succ P C a
    have h2 := off_mono P C (show a + 1 ≤ a' by omega)
    omega
theorem at_port (v i : Nat) (hv : v < m) (hi : i < nt P v) : atP (placesL P C m) (off P C v + i) = ((v : Int), (i : Int), false) := by
  unfold atP; rw [pl_port P C v i hi m hv]; rfl
theorem at_core (v i : Nat) (hv : v < m) (hi : i < nt C v) : atP (placesL P C m) (off P C v + (nt P v + i)) = ((v : Int), (i : Int), true) := by
  unfold atP; rw [pl_core P C v i hi m hv]; rfl
theorem off_le (v : Nat) (hv : v < m) : off P C v + (nt P v + nt C v) ≤ off P C m := by
  have h1 := off_succ P C v
  have h2 := off_mono P C (show v + 1 ≤ m by omega)
  omega
theorem mem_lay (G : GadOk m es F P C) (e : PE) : e ∈ layL F P C m es ↔ e ∈ rfL es (placesL P C m) (placesL P C m).length := by
  have hn : (placesL P C m).length = off P C m := rfl
  rw [mem_rfL, layL, pairs_eq G, List.mem_append, mem_stL G, hn]
  constructor
  · rintro (⟨v, i, k, hv, hi, hk, rfl⟩ | he)
    · have := off_le (P := P) (C := C) v hv
      refine ⟨_, _, by omega, by omega, ?_, ?_, rfl⟩
      · omega
      · rw [at_port v i hv hi, at_core v k hv hk]; simp [joinB]
    · obtain ⟨d, hd, rfl⟩ := List.mem_map.1 he
      obtain ⟨a, b, i, j, rfl, hab, hbm, hi, hj, g1, g2, e1, hl⟩ := pair_at G hd
      have := off_le (P := P) (C := C) b hbm
      have := off_le (P := P) (C := C) a (show a < m by omega)
      refine ⟨_, _, by omega, by omega, hl, ?_, e1⟩
      rw [at_port a i (by omega) hi, at_port b j hbm hj]
      have hne : ¬ ((a : Int) = (b : Int)) := by omega
      simp [joinB, hne, g1, g2]
  · rintro ⟨a, b, ha, hb, hab, hj, rfl⟩
    obtain ⟨u, hu, hua⟩ := off_inv P C a m ha
    obtain ⟨v, hv, hvb⟩ := off_inv P C b m hb
    have o1 := off_succ P C u
    have o2 := off_succ P C v
    rcases hua with ⟨i, hi, rfl⟩ | ⟨i, hi, rfl⟩
    · rcases hvb with ⟨j, hj', rfl⟩ | ⟨j, hj', rfl⟩
      · rw [at_port u i hu hi, at_port v j hv hj'] at hj
        unfold joinB at hj
        by_cases huv : (u : Int) = (v : Int)
        · simp [huv] at hj
        · simp [huv] at hj
          obtain ⟨g1, g2⟩ := hj
          right
          have hmem : (v : Int) ∈ nearL es (u : Int) := List.mem_of_getElem? g1
          have hle : u < v := by
            rcases Nat.lt_trichotomy u v with h | h | h
            · exact h
            · subst h; exact absurd rfl huv
            · have := off_mono P C (show v + 1 ≤ u by omega); omega
          have hes : ((u : Int), (v : Int)) ∈ es := by
            rcases mem_nearL.1 hmem with h | h
            · have := G.R.ok _ h; simp at this; omega
            · exact h
          refine List.mem_map.2 ⟨_, hes, ?_⟩
          obtain ⟨a, b, i', j', he', hab', hbm', hi', hj'', g1', g2', e1', hl'⟩ := pair_at G hes
          rw [e1']
          have ha1 : u = a := by have := congrArg Prod.fst he'; simp at this; omega
          have hb1 : v = b := by have := congrArg Prod.snd he'; simp at this; omega
          subst ha1 hb1
          have uq : ∀ (x y : Int) (s t : Nat), (nearL es x)[s]? = some y → (nearL es x)[t]? = some y → s = t := by
            intro x y s t hs ht
            have hr := List.pairwise_iff_getElem.1 (nearL_rises G.R x)
            rcases Nat.lt_trichotomy s t with h | h | h
            · have := hr s t (List.getElem?_eq_some_iff.1 hs).1 (List.getElem?_eq_some_iff.1 ht).1 h
              rw [(List.getElem?_eq_some_iff.1 hs).2, (List.getElem?_eq_some_iff.1 ht).2] at this
              omega
            · exact h
            · have := hr t s (List.getElem?_eq_some_iff.1 ht).1 (List.getElem?_eq_some_iff.1 hs).1 h
              rw [(List.getElem?_eq_some_iff.1 hs).2, (List.getElem?_eq_some_iff.1 ht).2] at this
              omega
          rw [uq _ _ _ _ g1' g1, uq _ _ _ _ g2' g2]
      · rw [at_port u i hu hi, at_core v j hv hj'] at hj
        unfold joinB at hj
        by_cases huv : (u : Int) = (v : Int)
        · obtain rfl : u = v := by omega
          left
          exact ⟨u, i, j, hu, hi, hj', rfl⟩
        · simp [huv] at hj
    · rcases hvb with ⟨j, hj', rfl⟩ | ⟨j, hj', rfl⟩
      · rw [at_core u i hu hi, at_port v j hv hj'] at hj
        unfold joinB at hj
        by_cases huv : (u : Int) = (v : Int)
        · obtain rfl : u = v := by omega
          omega
        · simp [huv] at hj
      · rw [at_core u i hu hi, at_core v j hv hj'] at hj
        unfold joinB at hj
        by_cases huv : (u : Int) = (v : Int)
        · simp [huv] at hj
        · simp [huv] at hj
theorem lay_nodup (G : GadOk m es F P C) : (layL F P C m es).Nodup := by
  rw [layL, pairs_eq G, List.nodup_append]
  refine ⟨inc_nodup (stL_inc G), inc_nodup (pairs_inc G), ?_⟩
  intro x hx y hy hxy
  subst hxy
  obtain ⟨v, i, k, hv, hi, hk, rfl⟩ := (mem_stL G _).1 hx
  obtain ⟨d, hd, he⟩ := List.mem_map.1 hy
  obtain ⟨a, b, i', j', rfl, hab, hbm, hi', hj', g1, g2, e1, hl⟩ := pair_at G hd
  rw [e1] at he
  have h1 : off P C a + i' = off P C v + i := by have := congrArg Prod.fst he; simp at this; omega
  have h2 : off P C b + j' = off P C v + (nt P v + k) := by have := congrArg Prod.snd he; simp at this; omega
  have o1 := off_succ P C v
  have o2 := off_succ P C a
  have o3 := off_succ P C b
  rcases Nat.lt_or_ge b v with h | h
  · have := off_mono P C (show b + 1 ≤ v by omega); omega
  · rcases Nat.lt_or_ge v b with h' | h'
    · have := off_mono P C (show v + 1 ≤ b by omega); omega
    · obtain rfl : v = b := by omega
      have := off_mono P C (show a + 1 ≤ v by omega); omega
theorem lay_sorted (G : GadOk m es F P C) : sortL (layL F P C m es) = rfL es (placesL P C m) (placesL P C m).length := by
  refine ord_eq (sortL_order _) (inc_order (rfL_inc _ _ _)) ?_
  refine (sortL_perm _).trans ?_
  exact (List.perm_ext_iff_of_nodup (lay_nodup G) (inc_nodup (rfL_inc _ _ _))).2 fun e => mem_lay G e
end
end Go.Proofs.Ytglhdoibglafbaa

/- Quiet walks of cmp.Less, slices.BinarySearch at numbers. -/
namespace Go.Proofs.Ytglhdoibglafbaa
open Go Go.RowKit
set_option maxRecDepth 100000
set_option linter.unusedVariables false

theorem lessQ2 (a b : Int) (w : World) : Calls Try.prog 134 #[.int .i64 a, .int .i64 b] w fun e w' => e = .returned (.bool (decide (a < b))) ∧ w' = w := by
  by_cases h : a < b
  · have h1 : decide (a < b) = true := decide_eq_true h
    rw [h1]
    go_enter Try.func134, Try.ntmps134
    go_wp2
    go_ret
    exact ⟨by simp, rfl⟩
  · have h1 : decide (a < b) = false := decide_eq_false h
    rw [h1]
    go_enter Try.func134, Try.ntmps134
    go_wp2
    go_ret
    exact ⟨by simp, rfl⟩

set_option maxHeartbeats 2000000 in
theorem bsQ (l : List Int) (p : Nat) (x : Int) (A : Option Addr) (c : Nat) (w : World) (hr : Reads w A (icells l)) (hc : l.length ≤ c) (hm : l.length ≤ 1000000) (hi : l.Pairwise (· < ·)) (hx : l[p]? = some x) :
    Calls Try.prog 118 #[.slice A l.length c, .int .i64 x] w fun e w' => e = .returned (.tuple #[.int .i64 p, .bool true]) ∧ ∃ n, w' = w.drewN n := by
  have hpl := (List.getElem?_eq_some_iff.1 hx).1
  have hxe := (List.getElem?_eq_some_iff.1 hx).2
  have HI : Hid (∀ (j : Nat) y, l[j]? = some y → (y < x ↔ j < p)) := fun j y hy => by
    obtain ⟨hj, hye⟩ := List.getElem?_eq_some_iff.1 hy
    have P := List.pairwise_iff_getElem.1 hi
    constructor
    · intro hlt
      rcases Nat.lt_trichotomy j p with h | h | h
      · exact h
      · subst h; omega
      · have := P p j hpl hj h; omega
    · intro h
      have := P j p hj hpl h; omega
  have HX := Lib.hid hx
  clear hi hx hxe
  go_enter Try.func118, Try.ntmps118
  go_wp2_with fail
  go_loopw [7, 8] (fun i j wr => ∃ lo hi : Nat, i = .int .i64 lo ∧ j = .int .i64 hi ∧ lo ≤ p ∧ p ≤ hi ∧ hi ≤ l.length ∧ wr = w) (fun i j _ => (intOf j - intOf i).toNat)
  case atStart => exact ⟨0, l.length, rfl, rfl, Nat.zero_le _, by omega, Nat.le_refl _, rfl⟩
  case round =>
    obtain ⟨lo, hi, rfl, rfl, hlp, hph, hhn, rfl⟩ := hrel
    by_cases hlt : lo < hi
    · obtain ⟨h, hh, k1, k2⟩ : ∃ h : Nat, ((lo : Int) + hi) / 2 = h ∧ lo ≤ h ∧ h < hi := ⟨(lo + hi) / 2, by omega, by omega, by omega⟩
      obtain ⟨y, hy⟩ : ∃ e, l[h]? = some e := ⟨l[h], by simp⟩
      obtain ⟨b, o, rfl, hbl, e1⟩ := hr.int h y hy
      have K := Lib.hid (HI.out h y hy)
      have hL := fun W => lessQ2 y x W
      clear hy
      by_cases hcp : y < x
      · have hd : decide (y < x) = true := decide_eq_true hcp
        simp only [hd] at hL
        have k3 := K.out.1 hcp
        clear hcp hd K
        go_wp2_with (go_at_call 134; go_loud (refine (hL _).mono ?_; rintro e w1 ⟨rfl, rfl⟩))
        go_roundw
        case rel => exact ⟨h + 1, hi, by go_num, rfl, k3, hph, hhn, trivial⟩
        case measure => simp [intOf]; omega
      · have hd : decide (y < x) = false := decide_eq_false hcp
        simp only [hd] at hL
        have k3 : p ≤ h := Nat.le_of_not_lt fun h9 => hcp (K.out.2 h9)
        clear hcp hd K
        go_wp2_with (go_at_call 134; go_loud (refine (hL _).mono ?_; rintro e w1 ⟨rfl, rfl⟩))
        go_roundw
        case rel => exact ⟨lo, h, rfl, rfl, hlp, k3, by omega, trivial⟩
        case measure => simp [intOf]; omega
    · obtain rfl : lo = p := by omega
      obtain ⟨b, o, rfl, hbl, e1⟩ := hr.int lo x HX.out
      have pI : (lo : Int) < (l.length : Int) := by omega
      go_wp2_with fail
      (try (go_quiet (fail)))
      (try (go_wp2_with fail))
      go_ret2
      exact ⟨rfl, 0, (World.drewN_zero _).symm⟩
end Go.Proofs.Ytglhdoibglafbaa

/- Walk of (*Gadget).Pairs. -/
namespace Go.Proofs.Ytglhdoibglafbaa
open Go Go.RowKit
set_option maxRecDepth 100000
set_option linter.unusedVariables false

theorem slot_get {m : Nat} {es : List (Int × Int)} {F : List Int} (hR : RightP m es) (hFl : F.length = m) {a b : Nat} (ha : a < m) (hb : (b : Int) ∈ nearL es (a : Int)) :
    ∃ (i : Nat) (x : Int), F[a]? = some x ∧ (nearL es (a : Int))[i]? = some (b : Int) ∧ slotL F es a b = x + i ∧ i < (nearL es (a : Int)).length := by
  have h1 := List.idxOf_lt_length_of_mem hb
  have hx : F[a]? = some (F[a]'(by omega)) := by simp [hFl, ha]
  refine ⟨(nearL es (a : Int)).idxOf (b : Int), _, hx, ?_, ?_, h1⟩
  · rw [List.getElem?_eq_getElem h1, List.getElem_idxOf h1]
  · unfold slotL; rw [Int.toNat_natCast, hx]; rfl

set_option maxHeartbeats 4000000 in
theorem pairs_any (m : Nat) (es : List (Int × Int)) (F : List Int) (g bF : Nat) (A : Option Addr) (c : Nat) (w : World) (hr : Reads w A (pcells es)) (hc : es.length ≤ c) (hR : RightP m es) (hgl : g < w.heap.size)
    (h1 : w.cell? ⟨g, 1, none⟩ = some (.slice (some ⟨bF, 0, none⟩) m m)) (hF : RowI w 3 bF F) (hFl : F.length = m) (hFb : ∀ x ∈ F, 0 ≤ x ∧ x ≤ 1000000) :
    Calls Try.prog 100 #[.pointer (some ⟨g, 0, none⟩), .agg #[.int .i64 (m : Int), .slice A es.length c]] w fun e w' => ∃ v, e = .returned v ∧ w'.ownsRow w.heap.size 28 2 v es.length (pcells (es.map (pairE F es))) ∧ Below w.heap.size w w' := by
  have hm1 := hR.n1
  have hm2 := hR.len
  have HL := fun W hr => lists_any m es A c W hr hc (by omega) (by omega) (fun e he => by have := hR.ok e he; omega)
  go_enter Try.func100, Try.ntmps100
  go_upto_region 2 with (go_at_call 74; go_loud (refine (HL _ (hr.below ?_)).mono ?_; (repeat (first | with_reducible exact Below.refl _ _ | with_reducible assumption | with_reducible refine below_drewN0 ?_ _ | with_reducible refine Below.drew ?_ | with_reducible refine Below.alloc ?_ ?_ _ | with_reducible refine Below.setCell ?_ ?_ _ | go_size | exact Below.size (by assumption))); rintro e w1 ⟨B, vs, rfl, hB, hRo, hb1⟩; have hbw : Below w.heap.size w w1 := Below.trans (by (repeat (first | with_reducible exact Below.refl _ _ | with_reducible assumption | with_reducible refine below_drewN0 ?_ _ | with_reducible refine Below.drew ?_ | with_reducible refine Below.alloc ?_ ?_ _ | with_reducible refine Below.setCell ?_ ?_ _ | go_size | exact Below.size (by assumption)))) (hb1.mono (by simp)); obtain ⟨q0, q1, q2, q3, q4⟩ := blk2 ((hb1.block w.heap.size (by simp)).trans (heap_alloc_new _ _))))
  have hlt0 := Nat.lt_of_lt_of_le hgl hbw.size
  have HS := Lib.hid (fun (W : World) (h : Below w1.heap.size w1 W) => (⟨(h.cell (p := ⟨w.heap.size, 0, none⟩) q4).trans q0, (h.cell (p := ⟨w.heap.size, 1, none⟩) q4).trans q1, (h.cell (p := ⟨g, 1, none⟩) hlt0).trans ((hbw.cell (p := ⟨g, 1, none⟩) hgl).trans h1)⟩ : W.cell? ⟨w.heap.size, 0, none⟩ = some (.int .i64 m) ∧ W.cell? ⟨w.heap.size, 1, none⟩ = some (.slice A es.length c) ∧ W.cell? ⟨g, 1, none⟩ = some (.slice (some ⟨bF, 0, none⟩) m m)))
  have HF := Lib.hid (fun (W : World) (h : Below w1.heap.size w1 W) => (hF.below hbw hF.lt).below h (Nat.lt_of_lt_of_le hF.lt hbw.size))
  have HRO := Lib.hid (fun (W : World) (h : Below w1.heap.size w1 W) => hRo.below h (Nat.le_refl _))
  have hr1 := hr.below hbw
  clear q0 q1 q2 q3 q4 hRo hF h1 hr HL
  have hw1 := hbw.size
  have HOK := Lib.hid (fun (k : Nat) (e : PE) (h : es[k]? = some e) => (⟨hR.ok e (List.mem_of_getElem? h), List.mem_of_getElem? h⟩ : (0 ≤ e.1 ∧ e.1 < e.2 ∧ e.2 < (m : Int)) ∧ e ∈ es))
  obtain ⟨s0, s1, s2⟩ := HS.out w1 (Below.refl _ _)
  go_wp2_with fail
  clear s0 s1 s2
  go_loopw [6, 21] (fun v6 i wx => ∃ (k : Nat) (A6 : Option Addr) (c6 : Nat), k ≤ es.length ∧ i = .int .i64 k ∧ v6 = .slice A6 k c6 ∧ Hid (wx.ownsRow w1.heap.size 28 2 (.slice A6 k c6) k (pcells ((es.take k).map (pairE F es)))) ∧ Below w1.heap.size w1 wx) (fun _ i _ => es.length - (intOf i).toNat)
  case atStart => exact ⟨0, none, 0, Nat.zero_le _, rfl, rfl, own_nil0 _ _ _ _, Below.refl _ _⟩
  case round =>
    obtain ⟨k, A6, c6, hk, rfl, rfl, ho, hb⟩ := hrel
    obtain ⟨s0, s1, s2⟩ := HS.out wr hb
    by_cases hlt : k < es.length
    · obtain ⟨⟨x, y⟩, hxy⟩ : ∃ e, es[k]? = some e := ⟨es[k], by simp [hlt]⟩
      obtain ⟨b, o, rfl, hbl, e1, e2⟩ := (hr1.below hb).pair' k _ hxy
      obtain ⟨⟨x0, x1, x2⟩, hmem⟩ := HOK.out k _ hxy
      dsimp only at x0 x1 x2
      obtain ⟨xn, rfl⟩ : ∃ m : Nat, x = m := ⟨x.toNat, by omega⟩
      obtain ⟨yn, rfl⟩ : ∃ m : Nat, y = m := ⟨y.toNat, by omega⟩
      obtain ⟨i, fx, gx1, gx2, gx3, gx4⟩ := slot_get (F := F) (a := xn) (b := yn) hR hFl (by omega) (mem_nearL.2 (.inr hmem))
      obtain ⟨j, fy, gy1, gy2, gy3, gy4⟩ := slot_get (F := F) (a := yn) (b := xn) hR hFl (by omega) (mem_nearL.2 (.inl hmem))
      have hpe : Hid ((es.take (k + 1)).map (pairE F es) = (es.take k).map (pairE F es) ++ [((fx + (i : Int)), (fy + (j : Int)))]) := by
        unfold Hid
        rw [List.take_add_one, hxy]
        simp only [Option.toList_some, List.map_append, List.map_cons, List.map_nil]
        unfold pairE
        rw [gx3, gy3]
      have hbx := hFb _ (List.mem_of_getElem? gx1)
      have hby := hFb _ (List.mem_of_getElem? gy1)
      have hli := nearL_length es (xn : Int)
      have hlj := nearL_length es (yn : Int)
      obtain ⟨v1, A1, c1, _, rfl, hc1, _, _, hcell1⟩ := (HRO.out wr hb).get xn _ (rowsF_get _ _ _ (by omega))
      obtain ⟨v2, A2, c2, _, rfl, hc2, _, _, hcell2⟩ := (HRO.out wr hb).get yn _ (rowsF_get _ _ _ (by omega))
      have hBl := (HRO.out wr hb).lt
      have HGX := Lib.hid gx1
      have HGY := Lib.hid gy1
      have HX2 := Lib.hid gx2
      have HY2 := Lib.hid gy2
      have hrx : Hid (∀ W, Below wr.heap.size wr W → Reads W A1 (icells (nearL es (xn : Int)))) := fun W h => by
        obtain ⟨v3, A3, c3, _, rfl, _, h3, _, hcell3⟩ := (HRO.out wr hb).get xn _ (rowsF_get _ _ _ (by omega))
        rw [hcell1] at hcell3; cases hcell3
        exact h3.below h
      have hry : Hid (∀ W, Below wr.heap.size wr W → Reads W A2 (icells (nearL es (yn : Int)))) := fun W h => by
        obtain ⟨v3, A3, c3, _, rfl, _, h3, _, hcell3⟩ := (HRO.out wr hb).get yn _ (rowsF_get _ _ _ (by omega))
        rw [hcell2] at hcell3; cases hcell3
        exact h3.below h
      have hix := Lib.hid (nearL_rises hR (xn : Int))
      have hiy := Lib.hid (nearL_rises hR (yn : Int))
      clear gx1 gy1 gx2 gy2 gx3 gy3 hxy
      dsimp only at e1 e2
      generalize nearL es (xn : Int) = lx at *
      generalize nearL es (yn : Int) = ly at *
      have bx := fun W h => bsQ lx i (yn : Int) A1 c1 W (hrx.out W h) hc1 (by omega) hix.out HX2.out
      have by' := fun W h => bsQ ly j (xn : Int) A2 c2 W (hry.out W h) hc2 (by omega) hiy.out HY2.out
      go_upto_region 6 with fail
      have hE := blk2 (heap_alloc_new wr (Obj.cells #[Value.int .i64 (xn : Int), Value.int .i64 (yn : Int)] 28))
      have hbV : Below wr.heap.size wr (wr.alloc (Obj.cells #[Value.int .i64 (xn : Int), Value.int .i64 (yn : Int)] 28)) := by (repeat (first | with_reducible exact Below.refl _ _ | with_reducible assumption | with_reducible refine below_drewN0 ?_ _ | with_reducible refine Below.drew ?_ | with_reducible refine Below.alloc ?_ ?_ _ | with_reducible refine Below.setCell ?_ ?_ _ | go_size | exact Below.size (by assumption)))
      generalize wr.alloc (Obj.cells #[Value.int .i64 (xn : Int), Value.int .i64 (yn : Int)] 28) = V at *
      have hEl := hE.2.2.2.2
      have hgr : g < wr.heap.size := Nat.lt_of_lt_of_le hlt0 hb.size
      have hV := Lib.hid (fun (W : World) (h : Below V.heap.size V W) => (⟨(h.cell (p := ⟨wr.heap.size, 0, none⟩) hEl).trans hE.1, (h.cell (p := ⟨wr.heap.size, 1, none⟩) hEl).trans hE.2.1, (h.cell (p := ⟨B, xn, none⟩) (Nat.lt_of_lt_of_le hBl hbV.size)).trans ((hbV.cell (p := ⟨B, xn, none⟩) hBl).trans hcell1), (h.cell (p := ⟨B, yn, none⟩) (Nat.lt_of_lt_of_le hBl hbV.size)).trans ((hbV.cell (p := ⟨B, yn, none⟩) hBl).trans hcell2), (h.cell (p := ⟨g, 1, none⟩) (Nat.lt_of_lt_of_le hgr hbV.size)).trans ((hbV.cell (p := ⟨g, 1, none⟩) hgr).trans s2)⟩ :
        W.cell? ⟨wr.heap.size, 0, none⟩ = some (.int .i64 (xn : Int)) ∧ W.cell? ⟨wr.heap.size, 1, none⟩ = some (.int .i64 (yn : Int)) ∧ W.cell? ⟨B, xn, none⟩ = some (.slice A1 lx.length c1) ∧ W.cell? ⟨B, yn, none⟩ = some (.slice A2 ly.length c2) ∧ W.cell? ⟨g, 1, none⟩ = some (.slice (some ⟨bF, 0, none⟩) m m)))
      clear e1 e2 s0 s1 s2 hE hcell1 hcell2
      have i1 : (xn : Int) < (m : Int) := by omega
      have i2 : (yn : Int) < (m : Int) := by omega
      obtain ⟨z0, z1, z2, z3, z4⟩ := hV.out V (Below.refl _ _)
      go_quiet (first | (go_at_call 118; refine Calls.quiet_of (bx _ ?_); exact below_drewN0 hbV _))
      go_wp2_with fail
      clear z0 z1 z2 z3 z4
      generalize hV1 : V.drewN _ = V1
      have hbV1 : Below V.heap.size V V1 := by rw [← hV1]; (repeat (first | with_reducible exact Below.refl _ _ | with_reducible assumption | with_reducible refine below_drewN0 ?_ _ | with_reducible refine Below.drew ?_ | with_reducible refine Below.alloc ?_ ?_ _ | with_reducible refine Below.setCell ?_ ?_ _ | go_size | exact Below.size (by assumption)))
      clear hV1
      obtain ⟨z0, z1, z2, z3, z4⟩ := hV.out V1 hbV1
      go_quiet (first | (go_at_call 118; refine Calls.quiet_of (by' _ ?_); exact below_drewN0 (hbV.trans (hbV1.mono hbV.size)) _))
      go_wp2_with fail
      clear z0 z1 z2 z3 z4
      generalize hV2 : V1.drewN _ = V2
      have hbV2 : Below V.heap.size V V2 := by rw [← hV2]; (repeat (first | with_reducible exact Below.refl _ _ | with_reducible assumption | with_reducible refine below_drewN0 ?_ _ | with_reducible refine Below.drew ?_ | with_reducible refine Below.alloc ?_ ?_ _ | with_reducible refine Below.setCell ?_ ?_ _ | go_size | exact Below.size (by assumption)))
      clear hV2 hbV1 bx by'
      obtain ⟨z0, z1, z2, z3, z4⟩ := hV.out V2 hbV2
      have hbwV : Below w1.heap.size w1 V2 := hb.trans ((hbV.trans (hbV2.mono hbV.size)).mono hb.size)
      have hFV := HF.out V2 hbwV
      have hSV := HS.out V2 hbwV
      have hs2 := hbwV.size
      have px := fun W (h : Below V2.heap.size V2 W) => port_still g bF m xn F fx i W ((HS.out W (hbwV.trans (h.mono hs2))).2.2) (HF.out W (hbwV.trans (h.mono hs2))) hFl HGX.out (by omega) (by omega)
      have py := fun W (h : Below V2.heap.size V2 W) => port_still g bF m yn F fy j W ((HS.out W (hbwV.trans (h.mono hs2))).2.2) (HF.out W (hbwV.trans (h.mono hs2))) hFl HGY.out (by omega) (by omega)
      clear hFV hSV
      have hVV := hbV2.size
      have HZ := Lib.hid (fun (W : World) (h : Below V2.heap.size V2 W) => (⟨(hV.out W (hbV2.trans (h.mono hVV))).1, (hV.out W (hbV2.trans (h.mono hVV))).2.1⟩ : W.cell? ⟨wr.heap.size, 0, none⟩ = some (.int .i64 (xn : Int)) ∧ W.cell? ⟨wr.heap.size, 1, none⟩ = some (.int .i64 (yn : Int))))
      go_region_held3 (fun w' => w'.cell? ⟨wr.heap.size, 0, none⟩ = some (.int .i64 (xn : Int)) ∧ w'.cell? ⟨wr.heap.size, 1, none⟩ = some (.int .i64 (yn : Int))) (first | exact ⟨z0, z1⟩ | exact hS5 | (refine HZ.out _ ?_; (repeat (first | with_reducible exact Below.refl _ _ | with_reducible assumption | with_reducible refine below_drewN0 ?_ _ | with_reducible refine Below.drew ?_ | with_reducible refine Below.alloc ?_ ?_ _ | with_reducible refine Below.setCell ?_ ?_ _ | go_size | exact Below.size (by assumption))); done))
       (first
        | (go_at_call 99; with_reducible refine (px _ ?_).mono ?_; (repeat (first | with_reducible exact Below.refl _ _ | with_reducible assumption | with_reducible refine below_drewN0 ?_ _ | with_reducible refine Below.drew ?_ | with_reducible refine Below.alloc ?_ ?_ _ | with_reducible refine Below.setCell ?_ ?_ _ | go_size | exact Below.size (by assumption))); rintro e w' ⟨rfl, rfl⟩)
        | (go_at_call 99; with_reducible refine (py _ ?_).mono ?_; (repeat (first | with_reducible exact Below.refl _ _ | with_reducible assumption | with_reducible refine below_drewN0 ?_ _ | with_reducible refine Below.drew ?_ | with_reducible refine Below.alloc ?_ ?_ _ | with_reducible refine Below.setCell ?_ ?_ _ | go_size | exact Below.size (by assumption))); rintro e w' ⟨rfl, rfl⟩)
        | (refine step_app EI_edge rfl (.tmp 47) (.tmp 59) rfl w1.heap.size (.slice A6 k c6) k (pcells ((es.take k).map (pairE F es))) rfl ?_ (some ⟨_, 0, none⟩) 1 1 [.int .i64 (fx + (i : Int)), .int .i64 (fy + (j : Int))] rfl ?_ rfl (by simp [Value.oneCell']) ?_ ?_ ?_; exact own_below0 (own_below0 ho.out (hbV.trans (hbV2.mono hbV.size))) (by (repeat (first | with_reducible exact Below.refl _ _ | with_reducible assumption | with_reducible refine below_drewN0 ?_ _ | with_reducible refine Below.drew ?_ | with_reducible refine Below.alloc ?_ ?_ _ | with_reducible refine Below.setCell ?_ ?_ _ | go_size | exact Below.size (by assumption)))); exact reads_new _ [_, _] _; omega; go_size; intro v5 w5 hown5 hg5 hat5; have hb5 : Below w1.heap.size w1 w5 := below_app (by (repeat (first | with_reducible exact Below.refl _ _ | with_reducible assumption | with_reducible refine below_drewN0 ?_ _ | with_reducible refine Below.drew ?_ | with_reducible refine Below.alloc ?_ ?_ _ | with_reducible refine Below.setCell ?_ ?_ _ | go_size | exact Below.size (by assumption)))) hg5 (by go_size) (fun g hg => (own_lt0 ho.out g hg).1); have hne : some wr.heap.size ≠ (Value.slice A6 k c6).ownBlock := (fun hx => by have h9 := own_lt0 ho.out _ hx.symm; omega); have hS5 := (⟨hg5.cell (HZ.out _ (by (repeat (first | with_reducible exact Below.refl _ _ | with_reducible assumption | with_reducible refine below_drewN0 ?_ _ | with_reducible refine Below.drew ?_ | with_reducible refine Below.alloc ?_ ?_ _ | with_reducible refine Below.setCell ?_ ?_ _ | go_size | exact Below.size (by assumption))))).1 hne, hg5.cell (HZ.out _ (by (repeat (first | with_reducible exact Below.refl _ _ | with_reducible assumption | with_reducible refine below_drewN0 ?_ _ | with_reducible refine Below.drew ?_ | with_reducible refine Below.alloc ?_ ?_ _ | with_reducible refine Below.setCell ?_ ?_ _ | go_size | exact Below.size (by assumption))))).2 hne⟩ : w5.cell? ⟨wr.heap.size, 0, none⟩ = some (.int .i64 (xn : Int)) ∧ w5.cell? ⟨wr.heap.size, 1, none⟩ = some (.int .i64 (yn : Int))); obtain ⟨A5, c5, rfl, hc5, _⟩ := own_reads0 hown5))
      go_wp2_with fail
      go_roundw
      case rel =>
        refine ⟨k + 1, A5, c5, by omega, by go_num, rfl, ?_, hb5⟩
        unfold Hid
        rw [hpe.out, pcells_append]
        exact own_cast hown5 (Nat.le_refl _) rfl rfl
      case measure => simp [intOf]; omega
    · obtain rfl : k = es.length := by omega
      clear s0 s1 s2
      go_wp2_with fail
      go_ret
      rw [List.take_length] at ho
      exact ⟨_, rfl, own_cast ho.out hw1 rfl rfl, hbw.trans (hb.mono hw1)⟩
end Go.Proofs.Ytglhdoibglafbaa

/- Queue's compare, as the sort of the shelf wants it: what it does to the world is blocks of its own. -/
namespace Go.Proofs.Ytglhdoibglafbaa
open Go Go.RowKit
set_option maxRecDepth 100000
set_option linter.unusedVariables false

/-- Draws, and blocks behind. -/
def GF (w w' : World) : Prop := ∃ q os', w' = Sort.grow (w.drewN q) os'
theorem GF.refl (w : World) : GF w w := ⟨0, #[], by simp [World.drewN]⟩
theorem GF.alloc {w w' : World} (h : GF w w') (o : Obj) : GF w (w'.alloc o) := by
  obtain ⟨q, os, rfl⟩ := h
  exact ⟨q, os ++ #[o], by rw [Sort.alloc_eq_grow, Sort.grow_grow]⟩
theorem GF.drewN {w w' : World} (h : GF w w') (n : Nat) : GF w (w'.drewN n) := by
  obtain ⟨q, os, rfl⟩ := h
  exact ⟨q + n, os, by simp [World.drewN, Sort.grow, Nat.add_assoc]⟩
theorem GF.drew {w w' : World} (h : GF w w') : GF w w'.drew := h.drewN 1
theorem GF.setCell {w w' : World} (h : GF w w') {p : Addr} (hp : w.heap.size ≤ p.block) (u : Value) : GF w (w'.setCell p u) := by
  obtain ⟨q, os, rfl⟩ := h
  refine ⟨q, ?_⟩
  unfold World.setCell Sort.grow
  simp only
  rw [Sort.modify_append_right _ _ _ _ (by exact hp)]
  exact ⟨_, rfl⟩
theorem GF.size {w w' : World} (h : GF w w') : w.heap.size ≤ w'.heap.size := by
  obtain ⟨q, os, rfl⟩ := h
  simp [Sort.grow, World.drewN]

set_option maxHeartbeats 2000000 in
theorem compareG (a b c d : Int) (w : World) :
    Calls Try.prog 85 #[.agg #[.int .i64 a, .int .i64 b], .agg #[.int .i64 c, .int .i64 d]] w fun e w' => e = .returned (.int .i64 (cmpE a b c d)) ∧ GF w w' := by
  have H1 := cmpE_eq a b c d
  obtain ⟨p, hp⟩ : ∃ p : Int, p = (if a < c then (-1 : Int) else if c < a then 1 else 0) := ⟨_, rfl⟩
  obtain ⟨q, hq⟩ : ∃ p : Int, p = (if b < d then (-1 : Int) else if d < b then 1 else 0) := ⟨_, rfl⟩
  rw [← hp, ← hq] at H1
  obtain ⟨r, hr⟩ : ∃ r : Int, r = if p = 0 then q else p := ⟨_, rfl⟩
  have C1 := fun W => cmpInt a c W
  have C2 := fun W => cmpInt b d W
  have C3 := fun g W h0 h1 => or2 p q g W h0 h1
  rw [← hp] at C1
  rw [← hq] at C2
  rw [← hr] at C3 H1
  clear hp hq hr
  rw [← H1]
  clear H1
  go_enter Try.func85, Try.ntmps85
  go_wp2_with fail
  refine wp_tail 10 (by kernel_rfl) (by kernel_rfl) ?_
  simp only [List.take_succ_cons, List.take_zero, List.drop_succ_cons, List.drop_zero]
  repeat (first | still_step | (refine wpStill_step (fun K hK => ?_); go_simp; with_reducible refine ⟨_, flip_w (C1 _), hK _ ?_⟩; clear hK K)  | (refine wpStill_step (fun K hK => ?_); go_simp; with_reducible refine ⟨_, flip_w (C2 _), hK _ ?_⟩; clear hK K))
  refine wpStill_nil ?_
  clear C1 C2
  go_wp2_with fail
  with_reducible refine (C3 _ _ ?_ ?_).mono ?_
  · simp [go_sem]
  · simp [go_sem]
  rintro e w' ⟨rfl, rfl⟩
  clear C3
  go_wp2_with fail
  go_ret
  exact ⟨rfl, by (repeat (first | exact GF.refl _ | refine GF.drewN ?_ _ | refine GF.drew ?_ | refine GF.alloc ?_ _ | refine GF.setCell ?_ ?_ _ | go_size | (simp; done) | (simp; omega)))⟩



end Go.Proofs.Ytglhdoibglafbaa

/- The shelf's sort laid at entries. -/
namespace Go.Proofs.Ytglhdoibglafbaa
open Go Go.RowKit Go.Shelf
set_option maxRecDepth 100000
set_option linter.unusedVariables false

def sortN_ren : Go.Shelf.Ren := ⟨fun | 6 => 84 | 15 => 95 | 14 => 102 | 28 => 115 | 29 => 116 | 20 => 119 | 21 => 120 | 22 => 121 | 23 => 122 | 24 => 123 | 25 => 124 | 26 => 125 | 27 => 126 | 46 => 136 | 47 => 130 | 48 => 131 | 49 => 137 | 50 => 138 | 57 => 141 | n => n, fun | 22 => 34 | 24 => 39 | 25 => 114 | 3 => 3 | 39 => 22 | 0 => 0 | 53 => 143 | 55 => 145 | 4 => 4 | 46 => 137 | 45 => 136 | 50 => 103 | 5 => 5 | 9 => 9 | 66 => 153 | 70 => 157 | 76 => 162 | 77 => 163 | n => n, fun | n => n⟩
theorem sortN : Go.Proofs.SlLaysF0.n6 Try.prog sortN_ren := {
  mixed := by kernel_rfl
  f6 := ⟨Try.f84.name, by decide, Try.func84.trans (congrArg some (by kernel_rfl))⟩
  f14 := ⟨Try.f102.name, by decide, Try.func102.trans (congrArg some (by kernel_rfl))⟩
  f15 := Try.func95.trans (congrArg some (by kernel_rfl))
  f20 := ⟨Try.f119.name, by decide, Try.func119.trans (congrArg some (by kernel_rfl))⟩
  f21 := ⟨Try.f120.name, by decide, Try.func120.trans (congrArg some (by kernel_rfl))⟩
  f22 := ⟨Try.f121.name, by decide, Try.func121.trans (congrArg some (by kernel_rfl))⟩
  f23 := ⟨Try.f122.name, by decide, Try.func122.trans (congrArg some (by kernel_rfl))⟩
  f24 := ⟨Try.f123.name, by decide, Try.func123.trans (congrArg some (by kernel_rfl))⟩
  f25 := ⟨Try.f124.name, by decide, Try.func124.trans (congrArg some (by kernel_rfl))⟩
  f26 := ⟨Try.f125.name, by decide, Try.func125.trans (congrArg some (by kernel_rfl))⟩
  f27 := ⟨Try.f126.name, by decide, Try.func126.trans (congrArg some (by kernel_rfl))⟩
  f28 := Try.func115.trans (congrArg some (by kernel_rfl))
  f29 := Try.func116.trans (congrArg some (by kernel_rfl))
  f46 := ⟨Try.f136.name, by decide, Try.func136.trans (congrArg some (by kernel_rfl))⟩
  f47 := Try.func130.trans (congrArg some (by kernel_rfl))
  f48 := Try.func131.trans (congrArg some (by kernel_rfl))
  f49 := ⟨Try.f137.name, by decide, Try.func137.trans (congrArg some (by kernel_rfl))⟩
  f50 := ⟨Try.f138.name, by decide, Try.func138.trans (congrArg some (by kernel_rfl))⟩
  f57 := ⟨Try.f141.name, by decide, Try.func141.trans (congrArg some (by kernel_rfl))⟩
  t0 := Try.underlying0
  a0 := Try.isAgg0
  z0 := Try.sizeOf0
  v0 := Try.zeroValue0
  t3 := Try.underlying3
  a3 := Try.isAgg3
  z3 := Try.sizeOf3
  v3 := Try.zeroValue3
  t4 := Try.underlying4
  a4 := Try.isAgg4
  z4 := Try.sizeOf4
  v4 := Try.zeroValue4
  t5 := Try.underlying5
  a5 := Try.isAgg5
  z5 := Try.sizeOf5
  v5 := Try.zeroValue5
  t9 := Try.underlying9
  a9 := Try.isAgg9
  z9 := Try.sizeOf9
  v9 := Try.zeroValue9
  t22 := Try.underlying34
  a22 := Try.isAgg34
  z22 := Try.sizeOf34
  v22 := Try.zeroValue34
  t25 := Try.underlying114
  a25 := Try.isAgg114
  z25 := Try.sizeOf114
  v25 := Try.zeroValue114
  t39 := Try.underlying22
  a39 := Try.isAgg22
  z39 := Try.sizeOf22
  v39 := Try.zeroValue22
  t45 := Try.underlying136
  a45 := Try.isAgg136
  z45 := Try.sizeOf136
  v45 := Try.zeroValue136
  t46 := Try.underlying137
  a46 := Try.isAgg137
  z46 := Try.sizeOf137
  v46 := Try.zeroValue137
  t50 := Try.underlying103
  a50 := Try.isAgg103
  z50 := Try.sizeOf103
  v50 := Try.zeroValue103
  t53 := Try.underlying143
  a53 := Try.isAgg143
  z53 := Try.sizeOf143
  v53 := Try.zeroValue143
  t55 := Try.underlying145
  a55 := Try.isAgg145
  z55 := Try.sizeOf145
  v55 := Try.zeroValue145
  t66 := Try.underlying153
  a66 := Try.isAgg153
  z66 := Try.sizeOf153
  v66 := Try.zeroValue153
  t70 := Try.underlying157
  a70 := Try.isAgg157
  z70 := Try.sizeOf157
  v70 := Try.zeroValue157
  t76 := Try.underlying162
  a76 := Try.isAgg162
  z76 := Try.sizeOf162
  v76 := Try.zeroValue162
  t77 := Try.underlying163
  a77 := Try.isAgg163
  z77 := Try.sizeOf163
  v77 := Try.zeroValue163 }

end Go.Proofs.Ytglhdoibglafbaa

/- Walks of slices' Clone, Delete, Insert at edges. -/
namespace Go.Proofs.Ytglhdoibglafbaa
open Go Go.RowKit
set_option maxRecDepth 100000
set_option linter.unusedVariables false

def OwnPost (B : Nat) (es : List (Int × Int)) (w : World) (e : Ending) (w' : World) : Prop :=
  ∃ v, e = .returned v ∧ w'.ownsRow B 28 2 v es.length (pcells es) ∧ Below B w w'

theorem cloneE (es : List (Int × Int)) (A : Option Addr) (c : Nat) (w : World) (hr : Reads w A (pcells es)) (hc : es.length ≤ c) (hm : es.length ≤ 1000000) :
    Calls Try.prog 87 #[.slice A es.length c] w (OwnPost w.heap.size es w) := by
  cases A with
  | none =>
    have h0 : es = [] := by
      rcases hr with h | ⟨b, o, h, _⟩
      · have := pcells_length es; rw [h] at this; simp at this; exact List.eq_nil_of_length_eq_zero (by omega)
      · cases h
    subst h0
    have hnl : ∀ w0 : World, (binOp .eql 23 (.slice none 0 c) (.slice none 0 0)).run Try.prog w0 = .ok (.bool true) w0 := fun w0 => by
      rw [Lib.run_eql_slice_nil w0 23 28 _ _ _ _ _ Try.underlying23]; rfl
    simp only [List.length_nil]
    go_enter Try.func87, Try.ntmps87
    go_wp2_with fail
    go_ret
    exact ⟨_, rfl, own_nil0 _ _ _ _, Below.refl _ _⟩
  | some ad =>
    have hpl := Lib.hid (pcells_length es)
    have hnl : ∀ w0 : World, (binOp .eql 23 (.slice (some ad) es.length c) (.slice none 0 0)).run Try.prog w0 = .ok (.bool false) w0 := fun w0 => by
      rw [Lib.run_eql_slice_nil w0 23 28 _ _ _ _ _ Try.underlying23]; rfl
    go_enter Try.func87, Try.ntmps87
    go_wp2_with (first
      | (at_builtin; go_loud (
         refine wpList_app EI_edge rfl (.tmp 5) (.tmp 6) rfl w.heap.size (.slice (some ⟨w.heap.size, 0, none⟩) 0 0) 0 [] rfl ?_ (some ad) es.length c (pcells es) rfl ?_ ?_ (pcells_one es) ?_ ?_ ?_
         · exact own_shut (cur := []) (Nat.le_refl _) (heap_alloc_new w _) (Nat.le_refl _) (by decide) (by simp) (by simp)
         · exact hr.below (by (repeat (first | with_reducible exact Below.refl _ _ | with_reducible assumption | with_reducible refine below_drewN0 ?_ _ | with_reducible refine Below.drew ?_ | with_reducible refine Below.alloc ?_ ?_ _ | with_reducible refine Below.setCell ?_ ?_ _ | go_size | exact Below.size (by assumption))))
         · rw [hpl.out]; omega
         · omega
         · go_size
         intro v1 w1 hown1 hg1 hat1
         have hb1 : Below w.heap.size w w1 := below_app (by (repeat (first | with_reducible exact Below.refl _ _ | with_reducible assumption | with_reducible refine below_drewN0 ?_ _ | with_reducible refine Below.drew ?_ | with_reducible refine Below.alloc ?_ ?_ _ | with_reducible refine Below.setCell ?_ ?_ _ | go_size | exact Below.size (by assumption)))) hg1 (by go_size) (fun g hg => by simp [Value.ownBlock] at hg; omega)
         obtain ⟨A1, c1, rfl, hc1, hr1⟩ := own_reads0 hown1
         simp only [Nat.zero_add, List.nil_append] at hown1)))
    go_ret
    exact ⟨_, rfl, hown1, hb1⟩

theorem run_clear1 (w : World) (ty : TypeId) (g o c : Nat) (cur : List Value) (T : TypeId) (hg : w.heap[g]? = some (.cells cur.toArray T (0, 0))) (hfit : o + 2 ≤ cur.length) :
    (Builtin.clear_ #[23] ty #[.slice (some ⟨g, o, none⟩) 1 c]).run Try.prog w = .ok (.tuple #[]) (w.setRow g (cur.take o ++ [Value.int .i64 0, Value.int .i64 0] ++ cur.drop (o + 2)).toArray) := by
  obtain ⟨i, hi, hz, hsize, hbytes⟩ := info_parts EI_edge.hinfo
  have hst := run_storeCells_at Try.prog g o T [.int .i64 0, .int .i64 0] 0 cur.toArray w hg (by simpa using hfit) (by simp [Value.oneCell'])
  simp only [Nat.add_zero] at hst
  have hzc : (Builtin.zeroCells (#[.int .i64 0, .int .i64 0] : Array Value) 1).toList = [.int .i64 0, .int .i64 0] := by
    apply List.ext_getElem
    · simp [Builtin.zeroCells]
    · intro i h1 h2
      have h3 : i < 2 := by simpa using h2
      match i, h3 with
      | 0, _ => simp [Builtin.zeroCells]
      | 1, _ => simp [Builtin.zeroCells]
  have hzv : ∀ w0 : World, (zeroValue 28).run Try.prog w0 = .ok (.agg #[.int .i64 0, .int .i64 0]) w0 := fun w0 => by
    simp [zeroValue, typeInfo, hi, hz]
  simp [Builtin.clear_, run_underlying Try.underlying23, hzv, Value.cells, hzc, hst]

theorem wpList_clear1 {w : World} {ops : Array Oper} {rest : List Oper} {o : Oper} {a : Act} {Q : Exit → Act → World → Prop} (hgd : o.guard = none) (s : Operand)
    (ho : o.op = .call { callee := .builtin .clear, args := #[s], argTypes := #[23] })
    (g off c : Nat) (hs : a.eval s = .slice (some ⟨g, off, none⟩) 1 c) (cur : List Value) (T : TypeId) (hg : w.heap[g]? = some (.cells cur.toArray T (0, 0))) (hfit : off + 2 ≤ cur.length)
    (h : ∀ w', w'.heap[g]? = some (.cells (cur.take off ++ [Value.int .i64 0, Value.int .i64 0] ++ cur.drop (off + 2)).toArray T (0, 0)) → w.grownBy w' (some g) → wpList Try.prog ops Q rest (a.put o.dst (.tuple #[])) w') : wpList Try.prog ops Q (o :: rest) a w :=
  wpList_plain hgd fun _ hK => by
    have hrun := run_clear1 w o.type g off c cur T hg hfit
    unfold Oper.wp execOp
    simp only [ho, resolve, invoke, builtin, Sem.run_bind, Sem.run_pure, Result.andThen_ok, List.map_toArray, List.map_cons, List.map_nil, hs, hrun]
    exact hK _ _ (h _ (setRow_heap w g cur.toArray _ T _ hg) ⟨rfl, rfl, rfl, by simp [World.setRow], fun k hk hne => setRow_other w g k _ (fun e => hne (by simp [e]))⟩)

set_option maxHeartbeats 2000000 in
theorem deleteE_in (es : List (Int × Int)) (i : Nat) (B : Nat) (v : Value) (w : World) (ho : w.ownsRow B 28 2 v es.length (pcells es)) (hi : i < es.length) (hroom : ∀ A c, v = .slice A es.length c → c ≠ i + 1) (hm : es.length ≤ 1000000) :
    Calls Try.prog 90 #[v, .int .i64 i, .int .i64 ((i : Int) + 1)] w (OwnPost B (es.take i ++ es.drop (i + 1)) w) := by
  obtain ⟨g, c, cur, rfl, hBg, hgl, hg, hnc, hcm, hcl, hct⟩ := own_open ho (by omega)
  have hpl := Lib.hid (pcells_length es)
  have hcm' : c ≤ 9223372036854775807 := by unfold maxLen at hcm; omega
  have HCM := Lib.hid hcm
  have HCL := Lib.hid hcl
  have HCT := Lib.hid hct
  have HG := Lib.hid hg
  have hrd := (own_reads1 ho).1
  have HRD : Hid (Reads w (if c = i + 1 then (some ⟨g, 0, none⟩ : Option Addr) else (some ⟨g, (i + 1) * 2, none⟩ : Option Addr)) (pcells (es.drop (i + 1)))) := by
    have := hrd.cut c (i + 1) es.length 2 (by omega) (by rw [hpl.out]; omega) (by rw [hpl.out]; omega) (by omega)
    rw [List.take_of_length_le (by rw [hpl.out]; omega), addr_map, Nat.zero_add] at this
    rw [pcells_drop]
    exact this
  have HL2 : Hid ((pcells (es.drop (i + 1))).length = (es.length - (i + 1)) * 2) := by unfold Hid; rw [pcells_length]; simp; omega
  have HPT : Hid (cur.take (i * 2) = pcells (es.take i)) := by
    unfold Hid
    rw [pcells_take, ← hct, List.take_take, Nat.min_eq_left (by omega)]
  clear hcm hcl hct hg hrd ho
  have j1 : (i : Int) ≤ (i : Int) + 1 := by omega
  have j2 : (i : Int) + 1 ≤ (es.length : Int) := by omega
  have j3 : (es.length : Int) ≤ (c : Int) := by omega
  have j4 : ((i : Int) == (i : Int) + 1) = false := by simp; omega
  have j4' : ¬ ((i : Int) = (i : Int) + 1) := by omega
  have j5 : ((i : Int) + 1).toNat = i + 1 := by omega
  have j6 : (0 : Int) ≤ (i : Int) + 1 := by omega
  have j7 : (i : Int) ≤ (c : Int) := by omega
  have j8 : (i : Int) + 1 ≤ (c : Int) := by omega
  have j9 : (i : Int) ≤ (es.length : Int) := by omega
  have k1 : ((i + (es.length - (i + 1)) : Nat) : Int) ≤ (es.length : Int) := by omega
  have k2 : ¬ (c = i + (es.length - (i + 1))) := by omega
  have k3 : es.length - (i + (es.length - (i + 1))) = 1 := by omega
  have fin : ∀ (w3 : World) (cur3 : List Value), w3.heap[g]? = some (.cells cur3.toArray 28 (0, 0)) → cur3.length = c * 2 → cur3.take ((i + (es.length - (i + 1))) * 2) = pcells (es.take i ++ es.drop (i + 1)) → Below B w w3 →
      OwnPost B (es.take i ++ es.drop (i + 1)) w (.returned (.slice (some ⟨g, 0, none⟩) (i + (es.length - (i + 1))) c)) w3 := fun w3 cur3 h1 h2 h3 h4 => by
    have hl : (es.take i ++ es.drop (i + 1)).length = i + (es.length - (i + 1)) := by simp; omega
    refine ⟨_, rfl, ?_, h4⟩
    rw [hl]
    exact own_shut hBg h1 (by omega) HCM.out h2 h3
  have FIN := Lib.hid fin
  clear fin
  have hci := hroom _ _ rfl
  clear hroom
  (go_enter Try.func90, Try.ntmps90
   go_wp2_with fail
   go_region_law (refine step_room EI_edge rfl (.tmp 22) (.tmp 25) rfl g cur i c rfl HG.out HCL.out ((some ⟨g, (i + 1) * 2, none⟩)) (es.length - (i + 1)) _ (pcells (es.drop (i + 1))) rfl ?_ HL2.out (pcells_one _) ?_ ?_
                  · have := HRD.out
                    (rw [if_neg hci] at this)
                    exact this
                  · omega
                  intro w2 hg2 hgr2)
   all_goals
     have hcl2 : (cur.take (i * 2) ++ pcells (es.drop (i + 1)) ++ cur.drop ((i + (es.length - (i + 1))) * 2)).length = c * 2 := by
       rw [List.length_append, List.length_append, HL2.out, List.length_take, List.length_drop, HCL.out]; omega
     have hct2 : (cur.take (i * 2) ++ pcells (es.drop (i + 1)) ++ cur.drop ((i + (es.length - (i + 1))) * 2)).take ((i + (es.length - (i + 1))) * 2) = pcells (es.take i ++ es.drop (i + 1)) := by
       rw [HPT.out, ← pcells_append, List.take_append_of_le_length (by rw [pcells_length]; simp; omega), List.take_of_length_le (by rw [pcells_length]; simp; omega)]
     generalize cur.take (i * 2) ++ pcells (es.drop (i + 1)) ++ cur.drop ((i + (es.length - (i + 1))) * 2) = cur2 at hg2 hcl2 hct2
     have HG2 := Lib.hid hg2
     have HC2 := Lib.hid hcl2
     have HT2 := Lib.hid hct2
     clear hg2 hcl2 hct2
     go_wp2_with (first
       | ((with_reducible refine wpList_clear1 rfl (.tmp 31) rfl g ((i + (es.length - (i + 1))) * 2) (c - (i + (es.length - (i + 1)))) ?_ cur2 _ HG2.out ?_ ?_)
          · simp [Act.eval]
            try omega
          · rw [HC2.out]; omega
          intro w3 hg3 hgr3
          have HG3 := Lib.hid hg3
          clear hg3))
     go_ret
     refine FIN.out _ _ HG3.out ?_ ?_ ?_
     · rw [List.length_append, List.length_append, List.length_take, List.length_drop, HC2.out]; simp; omega
     · rw [List.append_assoc, List.take_append_of_le_length (by rw [List.length_take, HC2.out]; omega), List.take_take, Nat.min_self, HT2.out]
     · exact Below.grown (Below.grown (by (repeat (first | with_reducible exact Below.refl _ _ | with_reducible assumption | with_reducible refine below_drewN0 ?_ _ | with_reducible refine Below.drew ?_ | with_reducible refine Below.alloc ?_ ?_ _ | with_reducible refine Below.setCell ?_ ?_ _ | go_size | exact Below.size (by assumption)))) hgr2 (by go_size; try omega) (fun k hk => by cases hk; exact hBg)) hgr3 (by have h9 := hgr2.size; simp at h9; omega) (fun k hk => by cases hk; exact hBg))

set_option maxHeartbeats 2000000 in
theorem deleteE_end (es : List (Int × Int)) (i : Nat) (B : Nat) (v : Value) (w : World) (ho : w.ownsRow B 28 2 v es.length (pcells es)) (hi : i < es.length) (hroom : ∀ A c, v = .slice A es.length c → c = i + 1) (hm : es.length ≤ 1000000) :
    Calls Try.prog 90 #[v, .int .i64 i, .int .i64 ((i : Int) + 1)] w (OwnPost B (es.take i ++ es.drop (i + 1)) w) := by
  obtain ⟨g, c, cur, rfl, hBg, hgl, hg, hnc, hcm, hcl, hct⟩ := own_open ho (by omega)
  have hpl := Lib.hid (pcells_length es)
  have hcm' : c ≤ 9223372036854775807 := by unfold maxLen at hcm; omega
  have HCM := Lib.hid hcm
  have HCL := Lib.hid hcl
  have HCT := Lib.hid hct
  have HG := Lib.hid hg
  have hrd := (own_reads1 ho).1
  have HRD : Hid (Reads w (if c = i + 1 then (some ⟨g, 0, none⟩ : Option Addr) else (some ⟨g, (i + 1) * 2, none⟩ : Option Addr)) (pcells (es.drop (i + 1)))) := by
    have := hrd.cut c (i + 1) es.length 2 (by omega) (by rw [hpl.out]; omega) (by rw [hpl.out]; omega) (by omega)
    rw [List.take_of_length_le (by rw [hpl.out]; omega), addr_map, Nat.zero_add] at this
    rw [pcells_drop]
    exact this
  have HL2 : Hid ((pcells (es.drop (i + 1))).length = (es.length - (i + 1)) * 2) := by unfold Hid; rw [pcells_length]; simp; omega
  have HPT : Hid (cur.take (i * 2) = pcells (es.take i)) := by
    unfold Hid
    rw [pcells_take, ← hct, List.take_take, Nat.min_eq_left (by omega)]
  clear hcm hcl hct hg hrd ho
  have j1 : (i : Int) ≤ (i : Int) + 1 := by omega
  have j2 : (i : Int) + 1 ≤ (es.length : Int) := by omega
  have j3 : (es.length : Int) ≤ (c : Int) := by omega
  have j4 : ((i : Int) == (i : Int) + 1) = false := by simp; omega
  have j4' : ¬ ((i : Int) = (i : Int) + 1) := by omega
  have j5 : ((i : Int) + 1).toNat = i + 1 := by omega
  have j6 : (0 : Int) ≤ (i : Int) + 1 := by omega
  have j7 : (i : Int) ≤ (c : Int) := by omega
  have j8 : (i : Int) + 1 ≤ (c : Int) := by omega
  have j9 : (i : Int) ≤ (es.length : Int) := by omega
  have k1 : ((i + (es.length - (i + 1)) : Nat) : Int) ≤ (es.length : Int) := by omega
  have k2 : ¬ (c = i + (es.length - (i + 1))) := by omega
  have k3 : es.length - (i + (es.length - (i + 1))) = 1 := by omega
  have fin : ∀ (w3 : World) (cur3 : List Value), w3.heap[g]? = some (.cells cur3.toArray 28 (0, 0)) → cur3.length = c * 2 → cur3.take ((i + (es.length - (i + 1))) * 2) = pcells (es.take i ++ es.drop (i + 1)) → Below B w w3 →
      OwnPost B (es.take i ++ es.drop (i + 1)) w (.returned (.slice (some ⟨g, 0, none⟩) (i + (es.length - (i + 1))) c)) w3 := fun w3 cur3 h1 h2 h3 h4 => by
    have hl : (es.take i ++ es.drop (i + 1)).length = i + (es.length - (i + 1)) := by simp; omega
    refine ⟨_, rfl, ?_, h4⟩
    rw [hl]
    exact own_shut hBg h1 (by omega) HCM.out h2 h3
  have FIN := Lib.hid fin
  clear fin
  have hci := hroom _ _ rfl
  clear hroom
  obtain hlen : es.length = i + 1 := by omega
  have hdn : es.take i ++ es.drop (i + 1) = es.take i := by rw [List.drop_of_length_le (by omega), List.append_nil]
  rw [hdn] at FIN ⊢
  have HLEN := Lib.hid hlen
  clear hlen hdn k1 k2 k3
  subst hci
  go_enter Try.func90, Try.ntmps90
  go_wp2_with fail
  go_region_law (refine step_room EI_edge rfl (.tmp 22) (.tmp 25) rfl g cur i (i + 1) rfl HG.out HCL.out (some ⟨g, 0, none⟩) 0 _ [] rfl ?_ ?_ ?_ ?_ ?_
                 · exact .inl rfl
                 · simp
                 · simp
                 · omega
                 intro w2 hg2 hgr2)
  all_goals
    have hid : cur.take (i * 2) ++ [] ++ cur.drop ((i + 0) * 2) = cur := by rw [List.append_nil, Nat.add_zero, List.take_append_drop]
    rw [hid] at hg2
    have HG2 := Lib.hid hg2
    clear hg2 hid
    go_wp2_with (first
      | ((with_reducible refine wpList_clear1 rfl (.tmp 31) rfl g (i * 2) (i + 1 - i) ?_ cur _ HG2.out ?_ ?_)
         · have h8 := HLEN.out
           simp [Act.eval]
           try omega
         · rw [HCL.out]; omega
         intro w3 hg3 hgr3
         have HG3 := Lib.hid hg3
         clear hg3))
    go_ret
    have h9 := FIN.out w3 _ HG3.out ?_ ?_ ?_
    · rw [show i + (es.length - (i + 1)) = i by have := HLEN.out; omega] at h9
      exact h9
    · rw [List.length_append, List.length_append, List.length_take, List.length_drop, HCL.out]; simp; omega
    · rw [show i + (es.length - (i + 1)) = i by have := HLEN.out; omega, List.append_assoc, List.take_append_of_le_length (by rw [List.length_take, HCL.out]; omega), List.take_take, Nat.min_self, HPT.out]
    · exact Below.grown (Below.grown (by (repeat (first | with_reducible exact Below.refl _ _ | with_reducible assumption | with_reducible refine below_drewN0 ?_ _ | with_reducible refine Below.drew ?_ | with_reducible refine Below.alloc ?_ ?_ _ | with_reducible refine Below.setCell ?_ ?_ _ | go_size | exact Below.size (by assumption)))) hgr2 (by go_size; try omega) (fun k hk => by cases hk; exact hBg)) hgr3 (by have h9 := hgr2.size; simp at h9; omega) (fun k hk => by cases hk; exact hBg)

theorem deleteE (es : List (Int × Int)) (i : Nat) (B : Nat) (v : Value) (w : World) (ho : w.ownsRow B 28 2 v es.length (pcells es)) (hi : i < es.length) (hm : es.length ≤ 1000000) :
    Calls Try.prog 90 #[v, .int .i64 i, .int .i64 ((i : Int) + 1)] w (OwnPost B (es.take i ++ es.drop (i + 1)) w) := by
  obtain ⟨A, c, rfl, _, _⟩ := own_reads0 ho
  by_cases h : c = i + 1
  · exact deleteE_end es i B _ w ho hi (fun A' c' h' => by simp at h'; omega) hm
  · exact deleteE_in es i B _ w ho hi (fun A' c' h' => by simp at h'; omega) hm

end Go.Proofs.Ytglhdoibglafbaa
