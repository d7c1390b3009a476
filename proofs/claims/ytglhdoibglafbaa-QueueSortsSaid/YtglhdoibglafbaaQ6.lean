/- The walk of the reference's Put of the queue: an entry among some that are in order. -/
import Derived.Test.YtglhdoibglafbaaQ0
import Derived.Test.YtglhdoibglafbaaA1
import Derived.Test.YtglhdoibglafbaaBA
import Derived.Deep.RegionLaw

namespace Go.Proofs.Ytglhdoibglafbaa
open Go Go.RowKit
set_option maxRecDepth 100000
set_option linter.unusedVariables false


theorem EI_ent : EI Try.prog 34 39 (.agg #[.int .i64 0, .int .i64 0]) 2 16 := ⟨Try.underlying34, by kernel_rfl, rfl, by decide, by decide⟩

theorem aheadQ (a b c d : Int) (w : World) :
    Calls Try.prog 64 #[.agg #[.int .i64 a, .int .i64 b], .agg #[.int .i64 c, .int .i64 d]] w fun e w' => e = .returned (.bool (decide (a < c ∨ a = c ∧ b < d))) ∧ Below w.heap.size w w' := by
  by_cases h : a < c
  · go_enter Try.func64, Try.ntmps64
    go_wp2
    go_ret
    exact ⟨by simp [h], by go_grown⟩
  · by_cases h' : a = c
    · subst h'
      go_enter Try.func64, Try.ntmps64
      go_wp2
      go_ret
      exact ⟨by simp, by go_grown⟩
    · have h2 : (a == c) = false := by simpa using h'
      go_enter Try.func64, Try.ntmps64
      go_wp2
      go_ret
      exact ⟨by simp; omega, by go_grown⟩

set_option maxHeartbeats 2000000 in
theorem putQ (es : List (Int × Int)) (x y : Int) (A : Option Addr) (c : Nat) (w : World) (hr : Reads w A (pcells es)) (hc : es.length ≤ c) (hm : es.length ≤ 100000) :
    Calls Try.prog 22 #[.slice A es.length c, .agg #[.int .i64 x, .int .i64 y]] w fun e w' => ∃ v, e = .returned v ∧ w'.ownsRow w.heap.size 39 2 v (es.length + 1) (pcells (putE es (x, y))) ∧ Below w.heap.size w w' := by
  go_enter Try.func22, Try.ntmps22
  go_wp2
  generalize hW : w.alloc (Obj.cells #[Value.int IntKind.i64 x, Value.int IntKind.i64 y] 39) = W
  have hbW : Below w.heap.size w W := by rw [← hW]; (repeat (first | with_reducible exact Below.refl _ _ | with_reducible assumption | with_reducible refine below_drewN0 ?_ _ | with_reducible refine Below.drew ?_ | with_reducible refine Below.alloc ?_ ?_ _ | with_reducible refine Below.setCell ?_ ?_ _ | go_size | exact Below.size (by assumption)))
  have hr1 := hr.below hbW
  have hg0 : W.cell? ⟨w.heap.size, 0, none⟩ = some (.int .i64 x) := by rw [← hW]; simp [go_sem]
  have hg1 : W.cell? ⟨w.heap.size, 1, none⟩ = some (.int .i64 y) := by rw [← hW]; simp [go_sem]
  have hgW : w.heap.size < W.heap.size := by rw [← hW]; simp
  clear hW hr
  go_loopw [5] (fun i wr => ∃ k : Nat, k ≤ es.length ∧ i = .int .i64 k ∧ Hid (putK es (x, y) es.length = putK es (x, y) k) ∧ Below W.heap.size W wr) (fun i _ => (intOf i).toNat)
  case atStart => exact ⟨es.length, Nat.le_refl _, rfl, rfl, Below.refl _ _⟩
  case round =>
    obtain ⟨k, hk, rfl, hok, hb⟩ := hrel
    have hg0' := (hb.cell (p := ⟨w.heap.size, 0, none⟩) hgW).trans hg0
    have hg1' := (hb.cell (p := ⟨w.heap.size, 1, none⟩) hgW).trans hg1
    have hfin : ∀ w', Below W.heap.size wr w' → Below w.heap.size w w' := fun w' h' => hbW.trans ((hb.trans h').mono hbW.size)
    have hWr : W.heap.size ≤ wr.heap.size := hb.size
    have hgr : w.heap.size < wr.heap.size := Nat.lt_of_lt_of_le hgW hb.size
    cases k with
    | zero =>
      (go_wp2_with fail
       refine wp_quiet_tail 9 (by kernel_rfl) (by kernel_rfl) ?_
       simp only [List.take_succ_cons, List.take_zero, List.drop_succ_cons, List.drop_zero]
       repeat (go_big_quiet_step (fail))
       refine wpQuiet_nil ?_
       intro _ hw'
       obtain ⟨nq, hw''⟩ := hw'
       subst hw'')
      go_wp2_with fail
      have hr2 := hr1.below hb
      have hS : ∀ w', Below wr.heap.size wr w' → w'.cell? ⟨w.heap.size, 0, none⟩ = some (.int .i64 x) ∧ w'.cell? ⟨w.heap.size, 1, none⟩ = some (.int .i64 y) := fun w' h' => ⟨(h'.cell (p := ⟨w.heap.size, 0, none⟩) hgr).trans hg0', (h'.cell (p := ⟨w.heap.size, 1, none⟩) hgr).trans hg1'⟩
      have HK0 : Hid (putK es (x, y) es.length = 0) := hok
      have hW0 : Below W.heap.size wr wr := Below.refl _ _
      clear hr1
      (have hlen := pcells_length es
       have hk1 : 0 ≤ es.length := by omega
       have HS := Lib.hid hS
       have HRT : Hid (Reads wr A (pcells (es.take 0))) := by
         have := (hr2).cut c 0 0 2 (Nat.zero_le _) (by rw [hlen]; omega) (by rw [hlen]; omega) (by omega)
         rw [pcells_take]
         by_cases hc0 : c = 0
         · have : pcells es = [] := List.eq_nil_of_length_eq_zero (by rw [hlen]; omega)
           exact .inl (by rw [this]; simp)
         · rw [if_neg hc0] at this
           simp only [Nat.zero_mul, List.drop_zero] at this
           rcases hr2 with h | ⟨b9, o9, h9, _⟩
           · exact .inl (by rw [h]; simp)
           · rw [h9] at this ⊢
             rwa [show ((some (⟨b9, o9, none⟩ : Addr)).map (·.add 0)) = some ⟨b9, o9, none⟩ by simp [Addr.add]] at this
       have HRD : Hid (Reads wr (if c = 0 then A else (A).map (·.add (0 * 2))) (pcells (es.drop 0))) := by
         have := (hr2).cut c 0 es.length 2 hk1 (by rw [hlen]; omega) (by rw [hlen]; omega) (by omega)
         rw [pcells_drop]
         rwa [List.take_of_length_le (by rw [hlen]; omega)] at this
       have HL1 : Hid ((pcells (es.take 0)).length = 0 * 2) := by unfold Hid; rw [pcells_length]; simp; try omega
       have HL2 : Hid ((pcells (es.drop 0)).length = (es.length - 0) * 2) := by unfold Hid; rw [pcells_length]; simp; try omega
       have HRD0 : Hid (Reads wr A (pcells (es.drop 0))) := hr2
       clear hlen
       go_region_held3 (fun w' => w'.cell? ⟨w.heap.size, 0, none⟩ = some (.int .i64 x) ∧ w'.cell? ⟨w.heap.size, 1, none⟩ = some (.int .i64 y)) (first | exact HS.out _ hb3 | exact HS.out _ hb2 | exact HS.out _ hb1 | exact HS.out _ (Below.alloc hb1 hb1.size _) | (refine HS.out _ ?_; (repeat (first | with_reducible exact Below.refl _ _ | with_reducible assumption | with_reducible refine below_drewN0 ?_ _ | with_reducible refine Below.drew ?_ | with_reducible refine Below.alloc ?_ ?_ _ | with_reducible refine Below.setCell ?_ ?_ _ | go_size | exact Below.size (by assumption))); done))
         (first
           | (refine step_app EI_ent rfl (.const (.slice none 0 0)) (.tmp 23) rfl (wr).heap.size (.slice none 0 0) 0 [] rfl (own_nil0 _ _ _ _) _ 0 _ (pcells (es.take 0)) rfl ?_ HL1.out (pcells_one _) ?_ ?_ ?_
              · exact HRT.out.below (by (repeat (first | with_reducible exact Below.refl _ _ | with_reducible assumption | with_reducible refine below_drewN0 ?_ _ | with_reducible refine Below.drew ?_ | with_reducible refine Below.alloc ?_ ?_ _ | with_reducible refine Below.setCell ?_ ?_ _ | go_size | exact Below.size (by assumption))))
              · omega
              · go_size
              intro v1 w1 hown1 hg1 hat1
              have hb1 : Below (wr).heap.size wr w1 := below_app (by (repeat (first | with_reducible exact Below.refl _ _ | with_reducible assumption | with_reducible refine below_drewN0 ?_ _ | with_reducible refine Below.drew ?_ | with_reducible refine Below.alloc ?_ ?_ _ | with_reducible refine Below.setCell ?_ ?_ _ | go_size | exact Below.size (by assumption)))) hg1 (by go_size) (by simp [Value.ownBlock]))
           | (refine step_app EI_ent rfl (.tmp 24) (.tmp 26) rfl (wr).heap.size v1 (0 + 0) ([] ++ pcells (es.take 0)) rfl ?_ (some ⟨_, 0, none⟩) 1 1 [.int .i64 x, .int .i64 y] rfl ?_ rfl ?_ ?_ ?_ ?_
              · first | exact hown1 | exact own_below0 hown1 (by (repeat (first | with_reducible exact Below.refl _ _ | with_reducible assumption | with_reducible refine below_drewN0 ?_ _ | with_reducible refine Below.drew ?_ | with_reducible refine Below.alloc ?_ ?_ _ | with_reducible refine Below.setCell ?_ ?_ _ | go_size | exact Below.size (by assumption))))
              · (first | exact reads_new _ [_, _] _ | (refine Reads.grown ?_ hg1 (by simp [Value.ownBlock]); exact reads_new _ [_, _] _))
              · simp [Value.oneCell']
              · omega
              · first | exact hb1.size | (have := hb1.size; go_size)
              intro v2 w2 hown2 hg2 hat2
              have hb2 : Below (wr).heap.size wr w2 := (by first | exact below_app hb1 hg2 hb1.size (fun g hg => (own_lt0 hown1 g hg).1) | exact below_app (Below.alloc hb1 hb1.size _) hg2 (by have := hb1.size; go_size) (fun g hg => (own_lt0 hown1 g hg).1)))
           | (refine step_app EI_ent rfl (.tmp 27) (.tmp 30) rfl (wr).heap.size v2 (0 + 0 + 1) _ rfl hown2 _ (es.length - 0) _ (pcells (es.drop 0)) rfl ?_ HL2.out (pcells_one _) ?_ ?_ ?_
              · first | exact HRD.out.below hb2 | exact HRD0.out.below hb2
              · omega
              · exact hb2.size
              intro v3 w3 hown3 hg3 hat3
              have hb3 : Below (wr).heap.size wr w3 := below_app hb2 hg3 hb2.size (fun g hg => (own_lt0 hown2 g hg).1)))
       all_goals go_wp2_with fail
       all_goals
         go_ret
         refine ⟨v3, rfl, own_cast hown3 (by have := hbW.size; have := hb.size; omega) (by omega) ?_, hfin _ (Below.trans hW0 (hb3.mono (by have := (hW0).size; omega)))⟩
         rw [putE, HK0.out, pcells_append]
         simp [pcells])
    | succ j =>
      obtain ⟨⟨x', y'⟩, hxy⟩ : ∃ e, es[j]? = some e := ⟨es[j], by simp⟩
      obtain ⟨b, o, rfl, hbl, e1, e2⟩ := (hr1.below hb).pair' j _ hxy
      have HXY := Lib.hid hxy
      clear hxy
      have HA := fun W => aheadQ x y x' y' W
      rw [ahead_cmp] at HA
      have HK : Hid (putK es (x, y) (j + 1) = if ltE (x, y) (x', y') = true then putK es (x, y) j else j + 1) := by
        unfold Hid
        conv => lhs; unfold putK
        rw [HXY.out]
      unfold ltE at HK
      dsimp only at HK
      generalize decide (cmpE x y x' y' < 0) = cp at HA HK
      have hr2 := hr1.below hb
      cases cp with
      | true =>
        (go_wp2_with fail
         refine wp_quiet_tail 9 (by kernel_rfl) (by kernel_rfl) ?_
         simp only [List.take_succ_cons, List.take_zero, List.drop_succ_cons, List.drop_zero]
         repeat (go_big_quiet_step (fail))
         refine wpQuiet_nil ?_
         intro _ hw'
         obtain ⟨nq, hw''⟩ := hw'
         subst hw'')
        go_wp2_with (go_at_call 64; refine (HA _).mono ?_; rintro e w1 ⟨rfl, hb1⟩)
        go_roundw
        case rel => exact ⟨j, by omega, rfl, hok.out.trans HK.out, hb.trans (Below.trans (by (repeat (first | with_reducible exact Below.refl _ _ | with_reducible assumption | with_reducible refine below_drewN0 ?_ _ | with_reducible refine Below.drew ?_ | with_reducible refine Below.alloc ?_ ?_ _ | with_reducible refine Below.setCell ?_ ?_ _ | go_size | exact Below.size (by assumption)))) (hb1.mono (by simp; omega)))⟩
        case measure => simp [intOf]
      | false =>
        (go_wp2_with fail
         refine wp_quiet_tail 9 (by kernel_rfl) (by kernel_rfl) ?_
         simp only [List.take_succ_cons, List.take_zero, List.drop_succ_cons, List.drop_zero]
         repeat (go_big_quiet_step (fail))
         refine wpQuiet_nil ?_
         intro _ hw'
         obtain ⟨nq, hw''⟩ := hw'
         subst hw'')
        go_wp2_with (go_at_call 64; refine (HA _).mono ?_; rintro e wc ⟨rfl, hbc0⟩)
        have hbc : Below wr.heap.size wr wc := Below.trans (by (repeat (first | with_reducible exact Below.refl _ _ | with_reducible assumption | with_reducible refine below_drewN0 ?_ _ | with_reducible refine Below.drew ?_ | with_reducible refine Below.alloc ?_ ?_ _ | with_reducible refine Below.setCell ?_ ?_ _ | go_size | exact Below.size (by assumption)))) (hbc0.mono (by simp))
        have hrc := hr2.below hbc
        have hsc := hbc.size
        have hS : ∀ w', Below wc.heap.size wc w' → w'.cell? ⟨w.heap.size, 0, none⟩ = some (.int .i64 x) ∧ w'.cell? ⟨w.heap.size, 1, none⟩ = some (.int .i64 y) := fun w' h' => ⟨((h'.cell (p := ⟨w.heap.size, 0, none⟩) (Nat.lt_of_lt_of_le hgr hsc)).trans (hbc.cell (p := ⟨w.heap.size, 0, none⟩) hgr)).trans hg0', ((h'.cell (p := ⟨w.heap.size, 1, none⟩) (Nat.lt_of_lt_of_le hgr hsc)).trans (hbc.cell (p := ⟨w.heap.size, 1, none⟩) hgr)).trans hg1'⟩
        have HK0 : Hid (putK es (x, y) es.length = j + 1) := hok.out.trans HK.out
        have hW0 : Below W.heap.size wr wc := hbc.mono hWr
        clear hbc0 hr1 hr2 hg0' hg1' e1 e2 HA HK HXY hok
        have q0 : (0 : Int) ≤ (j : Int) + 1 := by omega
        have q1 : (j : Int) + 1 ≤ (c : Int) := by omega
        have q2 : (j : Int) + 1 ≤ (es.length : Int) := by omega
        have q3 : ((j : Int) + 1).toNat = j + 1 := by omega
        (have hlen := pcells_length es
         have hk1 : (j + 1) ≤ es.length := by omega
         have HS := Lib.hid hS
         have HRT : Hid (Reads wc (some (⟨b, o, none⟩ : Addr)) (pcells (es.take (j + 1)))) := by
           have := (hrc).cut c 0 (j + 1) 2 (Nat.zero_le _) (by rw [hlen]; omega) (by rw [hlen]; omega) (by omega)
           rw [pcells_take]
           by_cases hc0 : c = 0
           · have : pcells es = [] := List.eq_nil_of_length_eq_zero (by rw [hlen]; omega)
             exact .inl (by rw [this]; simp)
           · rw [if_neg hc0] at this
             simp only [Nat.zero_mul, List.drop_zero] at this
             rcases hrc with h | ⟨b9, o9, h9, _⟩
             · exact .inl (by rw [h]; simp)
             · rw [h9] at this ⊢
               rwa [show ((some (⟨b9, o9, none⟩ : Addr)).map (·.add 0)) = some ⟨b9, o9, none⟩ by simp [Addr.add]] at this
         have HRD : Hid (Reads wc (if c = (j + 1) then (some (⟨b, o, none⟩ : Addr)) else ((some (⟨b, o, none⟩ : Addr))).map (·.add ((j + 1) * 2))) (pcells (es.drop (j + 1)))) := by
           have := (hrc).cut c (j + 1) es.length 2 hk1 (by rw [hlen]; omega) (by rw [hlen]; omega) (by omega)
           rw [pcells_drop]
           rwa [List.take_of_length_le (by rw [hlen]; omega)] at this
         have HL1 : Hid ((pcells (es.take (j + 1))).length = (j + 1) * 2) := by unfold Hid; rw [pcells_length]; simp; try omega
         have HL2 : Hid ((pcells (es.drop (j + 1))).length = (es.length - (j + 1)) * 2) := by unfold Hid; rw [pcells_length]; simp; try omega
         have HRD0 : Hid (Reads wc (some (⟨b, o, none⟩ : Addr)) (pcells (es.drop 0))) := hrc
         clear hlen
         go_region_held3 (fun w' => w'.cell? ⟨w.heap.size, 0, none⟩ = some (.int .i64 x) ∧ w'.cell? ⟨w.heap.size, 1, none⟩ = some (.int .i64 y)) (first | exact HS.out _ hb3 | exact HS.out _ hb2 | exact HS.out _ hb1 | exact HS.out _ (Below.alloc hb1 hb1.size _) | (refine HS.out _ ?_; (repeat (first | with_reducible exact Below.refl _ _ | with_reducible assumption | with_reducible refine below_drewN0 ?_ _ | with_reducible refine Below.drew ?_ | with_reducible refine Below.alloc ?_ ?_ _ | with_reducible refine Below.setCell ?_ ?_ _ | go_size | exact Below.size (by assumption))); done))
           (first
             | (refine step_app EI_ent rfl (.const (.slice none 0 0)) (.tmp 23) rfl (wc).heap.size (.slice none 0 0) 0 [] rfl (own_nil0 _ _ _ _) _ (j + 1) _ (pcells (es.take (j + 1))) rfl ?_ HL1.out (pcells_one _) ?_ ?_ ?_
                · exact HRT.out.below (by (repeat (first | with_reducible exact Below.refl _ _ | with_reducible assumption | with_reducible refine below_drewN0 ?_ _ | with_reducible refine Below.drew ?_ | with_reducible refine Below.alloc ?_ ?_ _ | with_reducible refine Below.setCell ?_ ?_ _ | go_size | exact Below.size (by assumption))))
                · omega
                · go_size
                intro v1 w1 hown1 hg1 hat1
                have hb1 : Below (wc).heap.size wc w1 := below_app (by (repeat (first | with_reducible exact Below.refl _ _ | with_reducible assumption | with_reducible refine below_drewN0 ?_ _ | with_reducible refine Below.drew ?_ | with_reducible refine Below.alloc ?_ ?_ _ | with_reducible refine Below.setCell ?_ ?_ _ | go_size | exact Below.size (by assumption)))) hg1 (by go_size) (by simp [Value.ownBlock]))
             | (refine step_app EI_ent rfl (.tmp 24) (.tmp 26) rfl (wc).heap.size v1 (0 + (j + 1)) ([] ++ pcells (es.take (j + 1))) rfl ?_ (some ⟨_, 0, none⟩) 1 1 [.int .i64 x, .int .i64 y] rfl ?_ rfl ?_ ?_ ?_ ?_
                · first | exact hown1 | exact own_below0 hown1 (by (repeat (first | with_reducible exact Below.refl _ _ | with_reducible assumption | with_reducible refine below_drewN0 ?_ _ | with_reducible refine Below.drew ?_ | with_reducible refine Below.alloc ?_ ?_ _ | with_reducible refine Below.setCell ?_ ?_ _ | go_size | exact Below.size (by assumption))))
                · (first | exact reads_new _ [_, _] _ | (refine Reads.grown ?_ hg1 (by simp [Value.ownBlock]); exact reads_new _ [_, _] _))
                · simp [Value.oneCell']
                · omega
                · first | exact hb1.size | (have := hb1.size; go_size)
                intro v2 w2 hown2 hg2 hat2
                have hb2 : Below (wc).heap.size wc w2 := (by first | exact below_app hb1 hg2 hb1.size (fun g hg => (own_lt0 hown1 g hg).1) | exact below_app (Below.alloc hb1 hb1.size _) hg2 (by have := hb1.size; go_size) (fun g hg => (own_lt0 hown1 g hg).1)))
             | (refine step_app EI_ent rfl (.tmp 27) (.tmp 30) rfl (wc).heap.size v2 (0 + (j + 1) + 1) _ rfl hown2 _ (es.length - (j + 1)) _ (pcells (es.drop (j + 1))) rfl ?_ HL2.out (pcells_one _) ?_ ?_ ?_
                · first | exact HRD.out.below hb2 | exact HRD0.out.below hb2
                · omega
                · exact hb2.size
                intro v3 w3 hown3 hg3 hat3
                have hb3 : Below (wc).heap.size wc w3 := below_app hb2 hg3 hb2.size (fun g hg => (own_lt0 hown2 g hg).1)))
         all_goals go_wp2_with fail
         all_goals
           go_ret
           refine ⟨v3, rfl, own_cast hown3 (by have := hbW.size; have := hb.size; omega) (by omega) ?_, hfin _ (Below.trans hW0 (hb3.mono (by have := (hW0).size; omega)))⟩
           rw [putE, HK0.out, pcells_append]
           simp [pcells])

end Go.Proofs.Ytglhdoibglafbaa
