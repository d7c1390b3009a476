/- The walk of the reference's Put of the queue: an entry among some that are in order. -/
import Derived.Test.YtglhdoibglafbaaU03
import Derived.Test.YtglhdoibglafbaaU02
import Derived.Deep.RegionLaw
import Derived.Test.YtglhdoibglafbaaU07
import Derived.Sort.Statements
import Derived.Shelf.SlSortCmp.Insertion
namespace Go.Proofs.Ytglhdoibglafbaa
open Go Go.RowKit
set_option maxRecDepth 100000
set_option linter.unusedVariables false
set_option linter.unusedSimpArgs false


theorem EI_ent : EI Try.prog 34 39 (.agg #[.int .i64 0, .int .i64 0]) 2 16 := ⟨Try.underlying34, by kernel_rfl, rfl, by decide, by decide⟩

theorem aheadQ (a b c d : Int) (w : World) :
    Calls Try.prog 64 #[.agg #[.int .i64 a, .int .i64 b], .agg #[.int .i64 c, .int .i64 d]] w fun e w' => e = .returned (.bool (decide (a < c ∨ a = c ∧ b < d))) ∧ Below w.heap.size w w' := by
  by_cases h : a < c
  · go_enter Try.func64, Try.ntmps64
    go_wp2
    go_ret
    exact ⟨by simp [h], by go_grown⟩
  · by_cases h' : a = c
    · subst h'
      go_enter Try.func64, Try.ntmps64
      go_wp2
      go_ret
      exact ⟨by simp, by go_grown⟩
    · have h2 : (a == c) = false := by simpa using h'
      go_enter Try.func64, Try.ntmps64
      go_wp2
      go_ret
      exact ⟨by simp; omega, by go_grown⟩

set_option maxHeartbeats 2000000 in
theorem putQ (es : List (Int × Int)) (x y : Int) (A : Option Addr) (c : Nat) (w : World) (hr : Reads w A (pcells es)) (hc : es.length ≤ c) (hm : es.length ≤ 100000) :
    Calls Try.prog 22 #[.slice A es.length c, .agg #[.int .i64 x, .int .i64 y]] w fun e w' => ∃ v, e = .returned v ∧ w'.ownsRow w.heap.size 39 2 v (es.length + 1) (pcells (putE es (x, y))) ∧ Below w.heap.size w w' := by
  go_enter Try.func22, Try.ntmps22
  go_wp2
  generalize hW : w.alloc (Obj.cells #[Value.int IntKind.i64 x, Value.int IntKind.i64 y] 39) = W
  have hbW : Below w.heap.size w W := by rw [← hW]; (repeat (first | with_reducible exact Below.refl _ _ | with_reducible assumption | with_reducible refine below_drewN0 ?_ _ | with_reducible refine Below.drew ?_ | with_reducible refine Below.alloc ?_ ?_ _ | with_reducible refine Below.setCell ?_ ?_ _ | go_size | exact Below.size (by assumption)))
  have hr1 := hr.below hbW
  have hg0 : W.cell? ⟨w.heap.size, 0, none⟩ = some (.int .i64 x) := by rw [← hW]; simp [go_sem]
  have hg1 : W.cell? ⟨w.heap.size, 1, none⟩ = some (.int .i64 y) := by rw [← hW]; simp [go_sem]
  have hgW : w.heap.size < W.heap.size := by rw [← hW]; simp
  clear hW hr
  go_loopw [5] (fun i wr => ∃ k : Nat, k ≤ es.length ∧ i = .int .i64 k ∧ Hid (putK es (x, y) es.length = putK es (x, y) k) ∧ Below W.heap.size W wr) (fun i _ => (intOf i).toNat)
  case atStart => exact ⟨es.length, Nat.le_refl _, rfl, rfl, Below.refl _ _⟩
  case round =>
    obtain ⟨k, hk, rfl, hok, hb⟩ := hrel
    have hg0' := (hb.cell (p := ⟨w.heap.size, 0, none⟩) hgW).trans hg0
    have hg1' := (hb.cell (p := ⟨w.heap.size, 1, none⟩) hgW).trans hg1
    have hfin : ∀ w', Below W.heap.size wr w' → Below w.heap.size w w' := fun w' h' => hbW.trans ((hb.trans h').mono hbW.size)
    have hWr : W.heap.size ≤ wr.heap.size := hb.size
    have hgr : w.heap.size < wr.heap.size := Nat.lt_of_lt_of_le hgW hb.size
    cases k with
    | zero =>
      (go_wp2_with fail
       refine wp_quiet_tail 9 (by kernel_rfl) (by kernel_rfl) ?_
       simp only [List.take_succ_cons, List.take_zero, List.drop_succ_cons, List.drop_zero]
       repeat (go_big_quiet_step (fail))
       refine wpQuiet_nil ?_
       intro _ hw'
       obtain ⟨nq, hw''⟩ := hw'
       subst hw'')
      go_wp2_with fail
      have hr2 := hr1.below hb
      have hS : ∀ w', Below wr.heap.size wr w' → w'.cell? ⟨w.heap.size, 0, none⟩ = some (.int .i64 x) ∧ w'.cell? ⟨w.heap.size, 1, none⟩ = some (.int .i64 y) := fun w' h' => ⟨(h'.cell (p := ⟨w.heap.size, 0, none⟩) hgr).trans hg0', (h'.cell (p := ⟨w.heap.size, 1, none⟩) hgr).trans hg1'⟩
      have HK0 : Hid (putK es (x, y) es.length = 0) := hok
      have hW0 : Below W.heap.size wr wr := Below.refl _ _
      clear hr1
      (have hlen := pcells_length es
       have hk1 : 0 ≤ es.length := by omega
       have HS := Lib.hid hS
       have HRT : Hid (Reads wr A (pcells (es.take 0))) := by
         have := (hr2).cut c 0 0 2 (Nat.zero_le _) (by rw [hlen]; omega) (by rw [hlen]; omega) (by omega)
         rw [pcells_take]
         by_cases hc0 : c = 0
         · have : pcells es = [] := List.eq_nil_of_length_eq_zero (by rw [hlen]; omega)
           exact .inl (by rw [this]; simp)
         · rw [if_neg hc0] at this
           simp only [Nat.zero_mul, List.drop_zero] at this
           rcases hr2 with h | ⟨b9, o9, h9, _⟩
           · exact .inl (by rw [h]; simp)
           · rw [h9] at this ⊢
             rwa [show ((some (⟨b9, o9, none⟩ : Addr)).map (·.add 0)) = some ⟨b9, o9, none⟩ by simp [Addr.add]] at this
       have HRD : Hid (Reads wr (if c = 0 then A else (A).map (·.add (0 * 2))) (pcells (es.drop 0))) := by
         have := (hr2).cut c 0 es.length 2 hk1 (by rw [hlen]; omega) (by rw [hlen]; omega) (by omega)
         rw [pcells_drop]
         rwa [List.take_of_length_le (by rw [hlen]; omega)] at this
       have HL1 : Hid ((pcells (es.take 0)).length = 0 * 2) := by unfold Hid; rw [pcells_length]; simp; try omega
       have HL2 : Hid ((pcells (es.drop 0)).length = (es.length - 0) * 2) := by unfold Hid; rw [pcells_length]; simp; try omega
       have HRD0 : Hid (Reads wr A (pcells (es.drop 0))) := hr2
       clear hlen
       go_region_held3 (fun w' => w'.cell? ⟨w.heap.size, 0, none⟩ = some (.int .i64 x) ∧ w'.cell? ⟨w.heap.size, 1, none⟩ = some (.int .i64 y)) (first | exact HS.out _ hb3 | exact HS.out _ hb2 | exact HS.out _ hb1 | exact HS.out _ (Below.alloc hb1 hb1.size _) | (refine HS.out _ ?_; (repeat (first | with_reducible exact Below.refl _ _ | with_reducible assumption | with_reducible refine below_drewN0 ?_ _ | with_reducible refine Below.drew ?_ | with_reducible refine Below.alloc ?_ ?_ _ | with_reducible refine Below.setCell ?_ ?_ _ | go_size | exact Below.size (by assumption))); done))
         (first
           | (refine step_app EI_ent rfl (.const (.slice none 0 0)) (.tmp 23) rfl (wr).heap.size (.slice none 0 0) 0 [] rfl (own_nil0 _ _ _ _) _ 0 _ (pcells (es.take 0)) rfl ?_ HL1.out (pcells_one _) ?_ ?_ ?_
              · exact HRT.out.below (by (repeat (first | with_reducible exact Below.refl _ _ | with_reducible assumption | with_reducible refine below_drewN0 ?_ _ | with_reducible refine Below.drew ?_ | with_reducible refine Below.alloc ?_ ?_ _ | with_reducible refine Below.setCell ?_ ?_ _ | go_size | exact Below.size (by assumption))))
              · omega
              · go_size
              intro v1 w1 hown1 hg1 hat1
              have hb1 : Below (wr).heap.size wr w1 := below_app (by (repeat (first | with_reducible exact Below.refl _ _ | with_reducible assumption | with_reducible refine below_drewN0 ?_ _ | with_reducible refine Below.drew ?_ | with_reducible refine Below.alloc ?_ ?_ _ | with_reducible refine Below.setCell ?_ ?_ _ | go_size | exact Below.size (by assumption)))) hg1 (by go_size) (by simp [Value.ownBlock]))
           | (refine step_app EI_ent rfl (.tmp 24) (.tmp 26) rfl (wr).heap.size v1 (0 + 0) ([] ++ pcells (es.take 0)) rfl ?_ (some ⟨_, 0, none⟩) 1 1 [.int .i64 x, .int .i64 y] rfl ?_ rfl ?_ ?_ ?_ ?_
              · first | exact hown1 | exact own_below0 hown1 (by (repeat (first | with_reducible exact Below.refl _ _ | with_reducible assumption | with_reducible refine below_drewN0 ?_ _ | with_reducible refine Below.drew ?_ | with_reducible refine Below.alloc ?_ ?_ _ | with_reducible refine Below.setCell ?_ ?_ _ | go_size | exact Below.size (by assumption))))
              · (first | exact reads_new _ [_, _] _ | (refine Reads.grown ?_ hg1 (by simp [Value.ownBlock]); exact reads_new _ [_, _] _))
              · simp [Value.oneCell']
              · omega
              · first | exact hb1.size | (have := hb1.size; go_size)
              intro v2 w2 hown2 hg2 hat2
              have hb2 : Below (wr).heap.size wr w2 := (by first | exact below_app hb1 hg2 hb1.size (fun g hg => (own_lt0 hown1 g hg).1) | exact below_app (Below.alloc hb1 hb1.size _) hg2 (by have := hb1.size; go_size) (fun g hg => (own_lt0 hown1 g hg).1)))
           | (refine step_app EI_ent rfl (.tmp 27) (.tmp 30) rfl (wr).heap.size v2 (0 + 0 + 1) _ rfl hown2 _ (es.length - 0) _ (pcells (es.drop 0)) rfl ?_ HL2.out (pcells_one _) ?_ ?_ ?_
              · first | exact HRD.out.below hb2 | exact HRD0.out.below hb2
              · omega
              · exact hb2.size
              intro v3 w3 hown3 hg3 hat3
              have hb3 : Below (wr).heap.size wr w3 := below_app hb2 hg3 hb2.size (fun g hg => (own_lt0 hown2 g hg).1)))
       all_goals go_wp2_with fail
       all_goals
         go_ret
         refine ⟨v3, rfl, own_cast hown3 (by have := hbW.size; have := hb.size; omega) (by omega) ?_, hfin _ (Below.trans hW0 (hb3.mono (by have := (hW0).size; omega)))⟩
         rw [putE, HK0.out, pcells_append]
         simp [pcells])
    | succ j =>
      obtain ⟨⟨x', y'⟩, hxy⟩ : ∃ e, es[j]? = some e := ⟨es[j], by simp⟩
      obtain ⟨b, o, rfl, hbl, e1, e2⟩ := (hr1.below hb).pair' j _ hxy
      have HXY := Lib.hid hxy
      clear hxy
      have HA := fun W => aheadQ x y x' y' W
      rw [ahead_cmp] at HA
      have HK : Hid (putK es (x, y) (j + 1) = if ltE (x, y) (x', y') = true then putK es (x, y) j else j + 1) := by
        unfold Hid
        conv => lhs; unfold putK
        rw [HXY.out]
      unfold ltE at HK
      dsimp only at HK
      generalize decide (cmpE x y x' y' < 0) = cp at HA HK
      have hr2 := hr1.below hb
      cases cp with
      | true =>
        (go_wp2_with fail
         refine wp_quiet_tail 9 (by kernel_rfl) (by kernel_rfl) ?_
         simp only [List.take_succ_cons, List.take_zero, List.drop_succ_cons, List.drop_zero]
         repeat (go_big_quiet_step (fail))
         refine wpQuiet_nil ?_
         intro _ hw'
         obtain ⟨nq, hw''⟩ := hw'
         subst hw'')
        go_wp2_with (go_at_call 64; refine (HA _).mono ?_; rintro e w1 ⟨rfl, hb1⟩)
        go_roundw
        case rel => exact ⟨j, by omega, rfl, hok.out.trans HK.out, hb.trans (Below.trans (by (repeat (first | with_reducible exact Below.refl _ _ | with_reducible assumption | with_reducible refine below_drewN0 ?_ _ | with_reducible refine Below.drew ?_ | with_reducible refine Below.alloc ?_ ?_ _ | with_reducible refine Below.setCell ?_ ?_ _ | go_size | exact Below.size (by assumption)))) (hb1.mono (by simp; omega)))⟩
        case measure => simp [intOf]
      | false =>
        (go_wp2_with fail
         refine wp_quiet_tail 9 (by kernel_rfl) (by kernel_rfl) ?_
         simp only [List.take_succ_cons, List.take_zero, List.drop_succ_cons, List.drop_zero]
         repeat (go_big_quiet_step (fail))
         refine wpQuiet_nil ?_
         intro _ hw'
         obtain ⟨nq, hw''⟩ := hw'
         subst hw'')
        go_wp2_with (go_at_call 64; refine (HA _).mono ?_; rintro e wc ⟨rfl, hbc0⟩)
        have hbc : Below wr.heap.size wr wc := Below.trans (by (repeat (first | with_reducible exact Below.refl _ _ | with_reducible assumption | with_reducible refine below_drewN0 ?_ _ | with_reducible refine Below.drew ?_ | with_reducible refine Below.alloc ?_ ?_ _ | with_reducible refine Below.setCell ?_ ?_ _ | go_size | exact Below.size (by assumption)))) (hbc0.mono (by simp))
        have hrc := hr2.below hbc
        have hsc := hbc.size
        have hS : ∀ w', Below wc.heap.size wc w' → w'.cell? ⟨w.heap.size, 0, none⟩ = some (.int .i64 x) ∧ w'.cell? ⟨w.heap.size, 1, none⟩ = some (.int .i64 y) := fun w' h' => ⟨((h'.cell (p := ⟨w.heap.size, 0, none⟩) (Nat.lt_of_lt_of_le hgr hsc)).trans (hbc.cell (p := ⟨w.heap.size, 0, none⟩) hgr)).trans hg0', ((h'.cell (p := ⟨w.heap.size, 1, none⟩) (Nat.lt_of_lt_of_le hgr hsc)).trans (hbc.cell (p := ⟨w.heap.size, 1, none⟩) hgr)).trans hg1'⟩
        have HK0 : Hid (putK es (x, y) es.length = j + 1) := hok.out.trans HK.out
        have hW0 : Below W.heap.size wr wc := hbc.mono hWr
        clear hbc0 hr1 hr2 hg0' hg1' e1 e2 HA HK HXY hok
        have q0 : (0 : Int) ≤ (j : Int) + 1 := by omega
        have q1 : (j : Int) + 1 ≤ (c : Int) := by omega
        have q2 : (j : Int) + 1 ≤ (es.length : Int) := by omega
        have q3 : ((j : Int) + 1).toNat = j + 1 := by omega
        (have hlen := pcells_length es
         have hk1 : (j + 1) ≤ es.length := by omega
         have HS := Lib.hid hS
         have HRT : Hid (Reads wc (some (⟨b, o, none⟩ : Addr)) (pcells (es.take (j + 1)))) := by
           have := (hrc).cut c 0 (j + 1) 2 (Nat.zero_le _) (by rw [hlen]; omega) (by rw [hlen]; omega) (by omega)
           rw [pcells_take]
           by_cases hc0 : c = 0
           · have : pcells es = [] := List.eq_nil_of_length_eq_zero (by rw [hlen]; omega)
             exact .inl (by rw [this]; simp)
           · rw [if_neg hc0] at this
             simp only [Nat.zero_mul, List.drop_zero] at this
             rcases hrc with h | ⟨b9, o9, h9, _⟩
             · exact .inl (by rw [h]; simp)
             · rw [h9] at this ⊢
               rwa [show ((some (⟨b9, o9, none⟩ : Addr)).map (·.add 0)) = some ⟨b9, o9, none⟩ by simp [Addr.add]] at this
         have HRD : Hid (Reads wc (if c = (j + 1) then (some (⟨b, o, none⟩ : Addr)) else ((some (⟨b, o, none⟩ : Addr))).map (·.add ((j + 1) * 2))) (pcells (es.drop (j + 1)))) := by
           have := (hrc).cut c (j + 1) es.length 2 hk1 (by rw [hlen]; omega) (by rw [hlen]; omega) (by omega)
           rw [pcells_drop]
           rwa [List.take_of_length_le (by rw [hlen]; omega)] at this
         have HL1 : Hid ((pcells (es.take (j + 1))).length = (j + 1) * 2) := by unfold Hid; rw [pcells_length]; simp; try omega
         have HL2 : Hid ((pcells (es.drop (j + 1))).length = (es.length - (j + 1)) * 2) := by unfold Hid; rw [pcells_length]; simp; try omega
         have HRD0 : Hid (Reads wc (some (⟨b, o, none⟩ : Addr)) (pcells (es.drop 0))) := hrc
         clear hlen
         go_region_held3 (fun w' => w'.cell? ⟨w.heap.size, 0, none⟩ = some (.int .i64 x) ∧ w'.cell? ⟨w.heap.size, 1, none⟩ = some (.int .i64 y)) (first | exact HS.out _ hb3 | exact HS.out _ hb2 | exact HS.out _ hb1 | exact HS.out _ (Below.alloc hb1 hb1.size _) | (refine HS.out _ ?_; (repeat (first | with_reducible exact Below.refl _ _ | with_reducible assumption | with_reducible refine below_drewN0 ?_ _ | with_reducible refine Below.drew ?_ | with_reducible refine Below.alloc ?_ ?_ _ | with_reducible refine Below.setCell ?_ ?_ _ | go_size | exact Below.size (by assumption))); done))
           (first
             | (refine step_app EI_ent rfl (.const (.slice none 0 0)) (.tmp 23) rfl (wc).heap.size (.slice none 0 0) 0 [] rfl (own_nil0 _ _ _ _) _ (j + 1) _ (pcells (es.take (j + 1))) rfl ?_ HL1.out (pcells_one _) ?_ ?_ ?_
                · exact HRT.out.below (by (repeat (first | with_reducible exact Below.refl _ _ | with_reducible assumption | with_reducible refine below_drewN0 ?_ _ | with_reducible refine Below.drew ?_ | with_reducible refine Below.alloc ?_ ?_ _ | with_reducible refine Below.setCell ?_ ?_ _ | go_size | exact Below.size (by assumption))))
                · omega
                · go_size
                intro v1 w1 hown1 hg1 hat1
                have hb1 : Below (wc).heap.size wc w1 := below_app (by (repeat (first | with_reducible exact Below.refl _ _ | with_reducible assumption | with_reducible refine below_drewN0 ?_ _ | with_reducible refine Below.drew ?_ | with_reducible refine Below.alloc ?_ ?_ _ | with_reducible refine Below.setCell ?_ ?_ _ | go_size | exact Below.size (by assumption)))) hg1 (by go_size) (by simp [Value.ownBlock]))
             | (refine step_app EI_ent rfl (.tmp 24) (.tmp 26) rfl (wc).heap.size v1 (0 + (j + 1)) ([] ++ pcells (es.take (j + 1))) rfl ?_ (some ⟨_, 0, none⟩) 1 1 [.int .i64 x, .int .i64 y] rfl ?_ rfl ?_ ?_ ?_ ?_
                · first | exact hown1 | exact own_below0 hown1 (by (repeat (first | with_reducible exact Below.refl _ _ | with_reducible assumption | with_reducible refine below_drewN0 ?_ _ | with_reducible refine Below.drew ?_ | with_reducible refine Below.alloc ?_ ?_ _ | with_reducible refine Below.setCell ?_ ?_ _ | go_size | exact Below.size (by assumption))))
                · (first | exact reads_new _ [_, _] _ | (refine Reads.grown ?_ hg1 (by simp [Value.ownBlock]); exact reads_new _ [_, _] _))
                · simp [Value.oneCell']
                · omega
                · first | exact hb1.size | (have := hb1.size; go_size)
                intro v2 w2 hown2 hg2 hat2
                have hb2 : Below (wc).heap.size wc w2 := (by first | exact below_app hb1 hg2 hb1.size (fun g hg => (own_lt0 hown1 g hg).1) | exact below_app (Below.alloc hb1 hb1.size _) hg2 (by have := hb1.size; go_size) (fun g hg => (own_lt0 hown1 g hg).1)))
             | (refine step_app EI_ent rfl (.tmp 27) (.tmp 30) rfl (wc).heap.size v2 (0 + (j + 1) + 1) _ rfl hown2 _ (es.length - (j + 1)) _ (pcells (es.drop (j + 1))) rfl ?_ HL2.out (pcells_one _) ?_ ?_ ?_
                · first | exact HRD.out.below hb2 | exact HRD0.out.below hb2
                · omega
                · exact hb2.size
                intro v3 w3 hown3 hg3 hat3
                have hb3 : Below (wc).heap.size wc w3 := below_app hb2 hg3 hb2.size (fun g hg => (own_lt0 hown2 g hg).1)))
         all_goals go_wp2_with fail
         all_goals
           go_ret
           refine ⟨v3, rfl, own_cast hown3 (by have := hbW.size; have := hb.size; omega) (by omega) ?_, hfin _ (Below.trans hW0 (hb3.mono (by have := (hW0).size; omega)))⟩
           rw [putE, HK0.out, pcells_append]
           simp [pcells])

end Go.Proofs.Ytglhdoibglafbaa

/- The queue told by what is in it, in order; its waking call; the reference's Sorted. -/
namespace Go.Proofs.Ytglhdoibglafbaa
open Go Go.RowKit
set_option maxRecDepth 100000
set_option linter.unusedVariables false
set_option linter.unusedSimpArgs false

/-- A queue of what F tells, in order. -/
def QF (w : World) (q B : Nat) (v : Value) (F : List PE) : Prop := ∃ es : List PE, QAt w q B v es ∧ HeapN es es.length ∧ es.Perm F ∧ InOrder F

theorem QF.below {w w' : World} {q B : Nat} {v : Value} {F : List PE} (h : QF w q B v F) (hb : Below w.heap.size w w') : QF w' q B v F := by
  obtain ⟨es, h1, h2, h3, h4⟩ := h
  exact ⟨es, h1.below hb, h2, h3, h4⟩
theorem QF.lt {w : World} {q B : Nat} {v : Value} {F : List PE} (h : QF w q B v F) : q < w.heap.size ∧ q < B ∧ ∀ g, v.ownBlock = some g → B ≤ g ∧ g < w.heap.size := by
  obtain ⟨es, h1, h2, h3, h4⟩ := h
  exact ⟨h1.lt, h1.hB, fun g hg => own_lt0 h1.own g hg⟩
theorem Touch.toBelow {q B0 : Nat} {v : Value} {a b : World} (h : Touch q v a b) (hq : B0 ≤ q) (hv : ∀ g, v.ownBlock = some g → B0 ≤ g) (hs : B0 ≤ a.heap.size) : Below B0 a b :=
  ⟨h.os, h.tape, h.output, h.size, fun k hk => h.block k (by omega) (by omega) (fun e => by have := hv k e; omega)⟩
/-- A row that the queue does not lie in. -/
def Sep (w : World) (q : Nat) (v : Value) (A : Option Addr) : Prop := ∀ a, A = some a → a.block < w.heap.size ∧ a.block ≠ q ∧ v.ownBlock ≠ some a.block
theorem Reads.touch {w w' : World} {q : Nat} {v : Value} {A : Option Addr} {cs : List Value} (h : Reads w A cs) (ht : Touch q v w w') (hs : Sep w q v A) : Reads w' A cs := by
  rcases h with h | ⟨b, o, rfl, hb, hc⟩
  · exact .inl h
  · obtain ⟨h1, h2, h3⟩ := hs _ rfl
    exact .inr ⟨b, o, rfl, Nat.lt_of_lt_of_le hb ht.size, fun j u hj => (World.cell?_of_block (a := ⟨b, o + j, none⟩) (ht.block b h1 h2 h3)).trans (hc j u hj)⟩
theorem Sep.push {w w' : World} {q : Nat} {v v' : Value} {A : Option Addr} (h : Sep w q v A) (hs : w.heap.size ≤ w'.heap.size) (hv : SameOr v v' w) : Sep w' q v' A := fun a ha => by
  obtain ⟨h1, h2, h3⟩ := h a ha
  refine ⟨by omega, h2, fun e => ?_⟩
  rcases hv _ e with h9 | h9
  · exact h3 h9
  · omega
theorem Touch.setnew {q : Nat} {v : Value} {a b : World} (h : Touch q v a b) {p : Addr} (hp : a.heap.size ≤ p.block) (u : Value) : Touch q v a (b.setCell p u) :=
  ⟨h.os, h.tape, h.output, by have := h.size; simpa [World.setCell] using this, fun k hk h1 h2 => (Below.heap_setCell _ _ _ _ (by omega)).trans (h.block k hk h1 h2)⟩
theorem QF.set {w : World} {q B : Nat} {v : Value} {F : List PE} (h : QF w q B v F) {a : Addr} (hq : q ≠ a.block) (hv : v.ownBlock ≠ some a.block) (u : Value) : QF (w.setCell a u) q B v F := by
  obtain ⟨es, h1, h2, h3, h4⟩ := h
  exact ⟨es, ⟨heap_far h1.blk hq u, own_far h1.own (fun g hg => Below.heap_setCell _ _ _ _ (fun e => hv (e ▸ hg))), h1.hB⟩, h2, h3, h4⟩
theorem SameOr.same {w : World} {v v' : Value} (h : v'.ownBlock = v.ownBlock) : SameOr v v' w := fun g hg => .inl (h ▸ hg)

theorem pushF (q B : Nat) (v : Value) (F : List PE) (x y : Int) (w : World) (hq : QF w q B v F) (hB : B ≤ w.heap.size) (hm : F.length < 2000000) :
    Calls Try.prog 19 #[.pointer (some ⟨q, 0, none⟩), .agg #[.int .i64 x, .int .i64 y]] w fun e w' => e = .returned (.int .i64 0) ∧ ∃ v', QF w' q B v' (putE F (x, y)) ∧ Touch q v w w' ∧ SameOr v v' w := by
  obtain ⟨es, h1, h2, h3, h4⟩ := hq
  refine (qPush q B v es x y w h1 h2 hB (by rw [h3.length_eq]; exact hm)).mono fun e w' h => ?_
  obtain ⟨v', es', he, hq', hp, hh, ht, hs⟩ := h
  exact ⟨he, v', ⟨es', hq', hh, hp.trans ((h3.cons _).trans (putE_perm F (x, y)).symm), putE_order _ h4⟩, ht, hs⟩

theorem peekF (q B : Nat) (v : Value) (x : PE) (F : List PE) (w : World) (hq : QF w q B v (x :: F)) :
    Calls Try.prog 23 #[.pointer (some ⟨q, 0, none⟩)] w fun e w' => e = .returned (.tuple #[.agg #[.int .i64 x.1, .int .i64 x.2], .int .i64 0]) ∧ Below w.heap.size w w' := by
  obtain ⟨es, h1, h2, h3, h4⟩ := hq
  obtain ⟨z, hz⟩ : ∃ z, es[0]? = some z := ⟨es[0]'(by rw [h3.length_eq]; simp), by simp⟩
  obtain rfl := heap_first h2 h3 h4 hz rfl
  exact qPeek q B v es z w h1 hz

theorem lenF (q B : Nat) (v : Value) (F : List PE) (w : World) (hq : QF w q B v F) : Calls Try.prog 24 #[.pointer (some ⟨q, 0, none⟩)] w fun e w' => e = .returned (.int .i64 (F.length : Int)) ∧ w = w' := by
  obtain ⟨es, h1, h2, h3, h4⟩ := hq
  rw [← h3.length_eq]
  exact qLen q B v es w h1

set_option maxHeartbeats 2000000 in
theorem popF (q B : Nat) (v : Value) (x : PE) (F : List PE) (w : World) (hq : QF w q B v (x :: F)) (hm : F.length ≤ 2000000) :
    Calls Try.prog 21 #[.pointer (some ⟨q, 0, none⟩)] w fun e w' => e = .returned (.tuple #[.agg #[.int .i64 x.1, .int .i64 x.2], .int .i64 0]) ∧ ∃ v', QF w' q B v' F ∧ Touch q v w w' ∧ v'.ownBlock = v.ownBlock := by
  have HPk := fun W hQ => peekF q B v x F W hQ
  have hPop : ∀ W, QF W q B v (x :: F) → Calls Try.prog 63 #[.iface 92 (.pointer (some ⟨q, 0, none⟩))] W fun e w' => (∃ u, e = .returned u) ∧ ∃ v', QF w' q B v' F ∧ Touch q v W w' ∧ v'.ownBlock = v.ownBlock := fun W hQ => by
    obtain ⟨es, h1, h2, h3, h4⟩ := hQ
    obtain ⟨z, hz⟩ : ∃ z, es[0]? = some z := ⟨es[0]'(by rw [h3.length_eq]; simp), by simp⟩
    obtain rfl := heap_first h2 h3 h4 hz rfl
    refine (hPop q B F.length v es z W h1 h2 hz (by rw [h3.length_eq]; simp) (by rw [h3.length_eq]; simp; omega)).mono fun e w' h => ?_
    obtain ⟨v', es', he, hq', hp, hh, ht, hv⟩ := h
    exact ⟨⟨_, he⟩, v', ⟨es', hq', hh, List.Perm.cons_inv (hp.trans h3), (List.pairwise_cons.1 h4).2⟩, ht, hv⟩
  have HQ := Lib.hid hq
  have hql := hq.lt.1
  have hvl := Lib.hid (fun g hg => (hq.lt.2.2 g hg).2)
  clear hq
  go_enter Try.func21, Try.ntmps21
  go_wp2_with (first
    | (go_at_call 23; go_loud (refine (HPk _ (HQ.out.below ?_)).mono ?_; (repeat (first | with_reducible exact Below.refl _ _ | with_reducible assumption | with_reducible refine below_drewN0 ?_ _ | with_reducible refine Below.drew ?_ | with_reducible refine Below.alloc ?_ ?_ _ | with_reducible refine Below.setCell ?_ ?_ _ | go_size | exact Below.size (by assumption))); rintro e w1 ⟨rfl, hb1⟩; have hw1 : Below w.heap.size w w1 := Below.trans (by (repeat (first | with_reducible exact Below.refl _ _ | with_reducible assumption | with_reducible refine below_drewN0 ?_ _ | with_reducible refine Below.drew ?_ | with_reducible refine Below.alloc ?_ ?_ _ | with_reducible refine Below.setCell ?_ ?_ _ | go_size | exact Below.size (by assumption)))) (hb1.mono (by simp)); have hg := blk2 ((hb1.block w.heap.size (by simp)).trans (heap_alloc_new w _)); obtain ⟨a0, a1, a2, a3, a4⟩ := hg))
    | (go_at_call 63; go_loud (
       refine (hPop _ (HQ.out.below ?_)).mono ?_
       · (repeat (first | with_reducible exact Below.refl _ _ | with_reducible assumption | with_reducible refine below_drewN0 ?_ _ | with_reducible refine Below.drew ?_ | with_reducible refine Below.alloc ?_ ?_ _ | with_reducible refine Below.setCell ?_ ?_ _ | go_size | exact Below.size (by assumption)))
       rintro e w2 ⟨⟨u, rfl⟩, v2, hq2, ht2, hv2⟩
       have hs1 := hw1.size
       obtain ⟨b0, b1, b2, b3, b4⟩ := blk2 ((ht2.block w1.heap.size (by simp) (by omega) (fun h9 => by have := hvl.out _ h9; omega)).trans (heap_alloc_new w1 _))
       obtain ⟨c0, c1, c2, c3, c4⟩ := blk2 ((ht2.block w.heap.size (by simp; omega) (by omega) (fun h9 => by have := hvl.out _ h9; omega)).trans (heap_old ((hb1.block w.heap.size (by simp)).trans (heap_alloc_new w _)))))))
  refine bodyPost_ret (v := .tuple #[.agg #[.int .i64 x.1, .int .i64 x.2], .int .i64 0]) (by simp [results, Try.results21, go_sem, c0, c1]) rfl ?_
  have hvn : v2.ownBlock ≠ some w.heap.size := fun h9 => by have := hvl.out _ (hv2 ▸ h9); omega
  exact ⟨rfl, v2, (hq2.set (a := ⟨w.heap.size, 0, none⟩) (by dsimp only; omega) hvn _).set (a := ⟨w.heap.size, 1, none⟩) (by dsimp only; omega) hvn _,
    ((((Touch.refl q v w).below (hw1.alloc hs1 _)).trans ht2).setnew (p := ⟨w.heap.size, 0, none⟩) (Nat.le_refl _) _).setnew (p := ⟨w.heap.size, 1, none⟩) (Nat.le_refl _) _, hv2⟩

theorem newF (w : World) : Calls Try.prog 17 #[] w fun e w' => e = .returned (.pointer (some ⟨w.heap.size, 0, none⟩)) ∧ QF w' w.heap.size (w.heap.size + 1) (.slice none 0 0) [] ∧ Below w.heap.size w w' ∧ w'.heap.size = w.heap.size + 1 :=
  (qNew w).mono fun e w' ⟨he, hq, hb, hs⟩ => ⟨he, ⟨[], hq, fun i h0 h1 => by simp at h1, List.Perm.refl _, List.Pairwise.nil⟩, hb, hs⟩

def sortL (l : List PE) : List PE := l.foldl putE []
theorem sortL_one (l : List PE) (k : Nat) (e : PE) (h : l[k]? = some e) : sortL (l.take (k + 1)) = putE (sortL (l.take k)) e := by
  unfold sortL
  rw [List.take_add_one, h]
  simp
theorem sortL_length (l : List PE) : (sortL l).length = l.length := by
  unfold sortL
  suffices h : ∀ (l F : List PE), (l.foldl putE F).length = F.length + l.length by simpa using h l []
  intro l
  induction l with
  | nil => intro F; simp
  | cons e l ih => intro F; rw [List.foldl_cons, ih, putE_length]; simp; omega

set_option maxHeartbeats 2000000 in
theorem sortedQ (l : List PE) (A : Option Addr) (c : Nat) (w : World) (hr : Reads w A (pcells l)) (hc : l.length ≤ c) (hm : l.length ≤ 90000) :
    Calls Try.prog 20 #[.slice A l.length c] w fun e w' => ∃ v, e = .returned v ∧ w'.ownsRow w.heap.size 39 2 v l.length (pcells (sortL l)) ∧ Below w.heap.size w w' := by
  go_enter Try.func20, Try.ntmps20
  go_wp2_with fail
  go_loopw [3, 4] (fun v3 i wr => ∃ k : Nat, k ≤ l.length ∧ i = .int .i64 k ∧ Hid (wr.ownsRow w.heap.size 39 2 v3 k (pcells (sortL (l.take k)))) ∧ Below w.heap.size w wr) (fun _ i _ => l.length - (intOf i).toNat)
  case atStart => exact ⟨0, Nat.zero_le _, rfl, own_nil0 _ _ _ _, Below.refl _ _⟩
  case round =>
    obtain ⟨k, hk, rfl, ho, hb⟩ := hrel
    obtain ⟨A3, c3, rfl, hc3, hr3⟩ := own_reads0 ho.out
    by_cases hlt : k < l.length
    · obtain ⟨e, he⟩ : ∃ e, l[k]? = some e := ⟨l[k], by simp [hlt]⟩
      obtain ⟨b, o, rfl, hbl, e1, e2⟩ := (hr.below hb).pair' k e he
      have HS := Lib.hid (sortL_one l k e he)
      have hsl : (sortL (l.take k)).length = k := by rw [sortL_length, List.length_take]; omega
      have HP := fun W hR => putQ (sortL (l.take k)) e.1 e.2 A3 c3 W hR (by rw [hsl]; exact hc3) (by rw [hsl]; omega)
      rw [hsl] at HP
      clear he hsl
      go_wp2_with (go_at_call 22; go_loud (refine (HP _ hr3).mono ?_; rintro e' w1 ⟨v1, rfl, ho1, hb1⟩))
      go_roundw
      case rel => exact ⟨k + 1, by omega, by go_num, by rw [HS.out]; exact own_cast ho1 hb.size rfl rfl, hb.trans (hb1.mono hb.size)⟩
      case measure => simp [intOf]; omega
    · obtain rfl : k = l.length := by omega
      go_wp2_with fail
      go_ret
      rw [List.take_length] at ho
      exact ⟨_, rfl, ho.out, hb⟩

end Go.Proofs.Ytglhdoibglafbaa

/- What is sorted is the list that reference's Put makes: plain. -/
namespace Go.Proofs.Ytglhdoibglafbaa
open Go Go.RowKit
set_option maxRecDepth 100000
set_option linter.unusedVariables false
set_option linter.unusedSimpArgs false

theorem ord_eq : ∀ {l F : List PE}, InOrder l → InOrder F → l.Perm F → l = F
  | [], F, _, _, hp => (List.nil_perm.1 hp).symm
  | x :: l, [], _, _, hp => by have := hp.length_eq; simp at this
  | x :: l, y :: F, h1, h2, hp => by
    have g1 := List.pairwise_cons.1 h1
    have g2 := List.pairwise_cons.1 h2
    have hx : x ∈ y :: F := hp.mem_iff.1 (by simp)
    have hy : y ∈ x :: l := hp.mem_iff.2 (by simp)
    have hxy : x = y := by
      rcases List.mem_cons.1 hx with h | h
      · exact h
      rcases List.mem_cons.1 hy with h' | h'
      · exact h'.symm
      have a1 := g1.1 y h'
      have a2 := g2.1 x h
      unfold LtE at a1 a2
      apply Prod.ext <;> omega
    subst hxy
    rw [ord_eq g1.2 g2.2 (List.Perm.cons_inv hp)]

theorem sortL_perm (l : List PE) : (sortL l).Perm l := by
  unfold sortL
  suffices h : ∀ (l F : List PE), (l.foldl putE F).Perm (l ++ F) by simpa using h l []
  intro l
  induction l with
  | nil => intro F; exact List.Perm.refl _
  | cons e l ih =>
    intro F
    rw [List.foldl_cons]
    refine (ih _).trans ?_
    refine ((putE_perm F e).append_left l).trans ?_
    exact List.perm_middle
theorem sortL_order (l : List PE) : InOrder (sortL l) := by
  unfold sortL
  suffices h : ∀ (l F : List PE), InOrder F → InOrder (l.foldl putE F) from h l [] List.Pairwise.nil
  intro l
  induction l with
  | nil => intro F h; exact h
  | cons e l ih => intro F h; exact ih _ (putE_order e h)

theorem sorted_is (l : List PE) (d' : Array PE) (hp : Sort.PermIn 0 l.toArray.size l.toArray d') (hs : Sort.SortedIn (ltOf fun x y : PE => cmpE x.1 x.2 y.1 y.2) 0 l.toArray.size d') : d'.toList = sortL l := by
  obtain ⟨h1, _, h3⟩ := hp
  have hsz : d'.size = l.length := by simpa using h1
  have hpl : d'.toList.Perm l := by
    have e1 : d'.extract 0 l.toArray.size = d' := by rw [← h1]; simp
    have e2 : l.toArray.extract 0 l.toArray.size = l.toArray := by simp
    rw [e1, e2] at h3
    simpa using h3
  refine ord_eq ?_ (sortL_order l) (hpl.trans (sortL_perm l).symm)
  unfold InOrder
  refine List.pairwise_iff_getElem.2 fun i j hi hj hij hlt => ?_
  have h9 := hs i j (Nat.zero_le _) hij (by simpa [hsz] using hj)
  unfold ltOf at h9
  have h8 := of_decide_eq_false h9
  refine h8 ?_
  rw [cmpE_lt]
  have hi' : i < d'.size := by simpa using hi
  have hj' : j < d'.size := by simpa using hj
  rw [getElem!_pos d' i hi', getElem!_pos d' j hj']
  simpa using hlt

theorem swoE : Sort.SWO (ltOf fun x y : PE => cmpE x.1 x.2 y.1 y.2) := by
  have hT : ∀ x y : PE, ltOf (fun x y : PE => cmpE x.1 x.2 y.1 y.2) x y = true ↔ LtE x y := fun x y => by
    unfold ltOf
    rw [decide_eq_true_iff]
    exact cmpE_lt _ _ _ _
  have hF : ∀ x y : PE, ltOf (fun x y : PE => cmpE x.1 x.2 y.1 y.2) x y = false ↔ ¬ LtE x y := fun x y => by
    rw [← hT]; simp
  refine ⟨fun x => ?_, fun x y z h1 h2 => ?_, fun x y z h1 h2 => ?_⟩ <;> simp only [hT, hF] at * <;> unfold LtE at * <;> omega
end Go.Proofs.Ytglhdoibglafbaa
