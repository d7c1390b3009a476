/- The walk of the law GraphWrong. -/
import Derived.Test.YtglhdoibglafbaaD7
import Derived.Test.YtglhdoibglafbaaG3
import Derived.Test.YtglhdoibglafbaaA6
import Derived.Test.YtglhdoibglafbaaB2
import Derived.Deep.CutBlock
import Derived.BigRegion
namespace Go.Proofs.Ytglhdoibglafbaa
open Go Go.RowKit
set_option maxRecDepth 100000
set_option linter.unusedVariables false

theorem mod_len (x : Int) (m : Nat) (h0 : 0 < m) (h1 : m ≤ 4096) : ∃ k : Nat, k < m ∧ wrap64 ((IntKind.u64.wrap x).tmod (m : Int)) = k := by
  have h := mod_u x ((m : Int) - 1) (by omega) (by omega)
  rw [show (m : Int) - 1 + 1 = m by omega] at h
  exact ⟨(wrap64 ((IntKind.u64.wrap x).tmod (m : Int))).toNat, by omega, by omega⟩

set_option maxHeartbeats 4000000 in
theorem wrong_any (n0 at0 what : Int) (ends : List Int) (Ae : Option Addr) (ce : Nat) (w : World) (hn1 : -9223372036854775808 ≤ n0) (hn2 : n0 ≤ 9223372036854775807)
    (hr : Reads w Ae (icells ends)) (hc : ends.length ≤ ce) (hm : ends.length ≤ 4611686018427387903) :
    Calls Try.prog 13 #[.int .i64 n0, .slice Ae ends.length ce, .int .i64 at0, .int .i64 what] w fun e w' => e = .returned (.bool true) ∧ Below w.heap.size w w' := by
  have HA := fun W => awake02 W
  have HSm := fun W hR => small_any n0 20 40 ends Ae ce W (by omega) (by omega) (by omega) (by omega) hn1 hn2 hR hc hm
  go_enter Try.func13, Try.ntmps13
  go_upto_region 2 with (first
    | (go_at_call 41; refine (HSm _ hr).mono ?_
       rintro e w1 ⟨n, es, A, c, rfl, hP, hn, hel, hec, hrd, hb1⟩))
  by_cases hes : es.length = 0
  · have hes' : ((es.length : Int) == 0) = true := by simp [hes]
    go_wp2_with (first | (go_at_call 25; refine (HA _).mono ?_; rintro e w2 ⟨rfl, hb2⟩))
    go_ret
    exact ⟨rfl, (hb1.alloc hb1.size _).trans (hb2.mono (Nat.le_trans hb1.size (Nat.le_of_lt (by simp))))⟩
  have hes' : ((es.length : Int) == 0) = false := beq_eq_false_iff_ne.2 (by omega)
  obtain ⟨k, hk, hkm⟩ := mod_len at0 es.length (by omega) (by omega)
  have hwl : IntKind.u64.wrap (es.length : Int) = es.length := by rw [IntKind.wrap_u64]; omega
  go_upto_region 6 with (first
    | (at_builtin; refine wpList_app EI_edge rfl (.const (.slice none 0 0)) (.tmp 34) rfl (w1.heap.size + 1) (.slice none 0 0) 0 [] rfl (own_nil0 _ _ _ _) A es.length c (pcells es) rfl (hrd.below (by (repeat (first | with_reducible exact Below.refl _ _ | with_reducible assumption | with_reducible refine below_drewN0 ?_ _ | with_reducible refine Below.drew ?_ | with_reducible refine Below.alloc ?_ ?_ _ | with_reducible refine Below.setCell ?_ ?_ _ | go_size)))) (by rw [pcells_length]; omega) (pcells_one es) (by omega) (by simp) ?_
       intro v2 w2 hown2 hg2 hat2))
  obtain ⟨g2, c2, rfl, hc2, hg2b, hg2l, hcell, hfroz⟩ := own_block hown2 (by omega)
  simp only [Nat.zero_add, List.nil_append] at hown2 hc2 hcell
  have hs1 : w1.heap.size + 1 ≤ w2.heap.size := by have := hg2.size; rw [World.size_alloc] at this; exact this
  have hG2 : w2.heap[w1.heap.size]? = some (.cells #[Value.int IntKind.i64 n, Value.slice A es.length c] 25 (0, 0)) := (hg2.block w1.heap.size (by simp) (by simp [Value.ownBlock])).trans (heap_alloc_new _ _)
  have hb2 : Below w1.heap.size w1 w2 := below_app (by (repeat (first | with_reducible exact Below.refl _ _ | with_reducible assumption | with_reducible refine below_drewN0 ?_ _ | with_reducible refine Below.drew ?_ | with_reducible refine Below.alloc ?_ ?_ _ | with_reducible refine Below.setCell ?_ ?_ _ | go_size))) hg2 (by simp) (by simp [Value.ownBlock])
  obtain ⟨⟨x, y⟩, hxy⟩ : ∃ e, es[k]? = some e := ⟨es[k], by simp⟩
  have hxyP := hP.ok _ (List.mem_of_getElem? hxy)
  have hX := hcell _ _ (pcells_get es k _ hxy).1
  have hY := hcell _ _ (pcells_get es k _ hxy).2
  rw [Nat.mul_comm] at hX hY
  have HCELL := Lib.hid hcell
  have f0 := hfroz (k * 2)
  have f1 := hfroz (k * 2 + 1)
  have HXY := Lib.hid hxy
  have HXP := Lib.hid hxyP
  have HOW := Lib.hid hown2
  have HG2 := Lib.hid hG2
  have kI : (k : Int) < (es.length : Int) := by omega
  clear hcell hfroz hxy hxyP hown2 hG2 hat2
  obtain ⟨r, hr4, hr0, hr3⟩ : ∃ r, (IntKind.u64.wrap what).tmod 4 = r ∧ 0 ≤ r ∧ r ≤ 3 := by
    refine ⟨_, rfl, ?_, ?_⟩
    · exact Int.tmod_nonneg _ (by rw [IntKind.wrap_u64]; omega)
    · have := Int.tmod_lt_of_pos (IntKind.u64.wrap what) (show (0 : Int) < 4 by omega)
      omega
  go_upto_block 0 with fail
  go_cut [11] (fun v11 wc => ∃ (L : List (Int × Int)) (AL : Option Addr) (cL : Nat), v11 = .slice AL L.length cL ∧ Hid (L.length ≤ cL) ∧ Hid (L.length ≤ 100) ∧ Hid (Reads wc AL (pcells L)) ∧ Hid (rightB n L = false) ∧
    Hid (wc.heap[w1.heap.size]? = some (.cells #[Value.int IntKind.i64 n, Value.slice A es.length c] 25 (0, 0))) ∧ Below w1.heap.size w1 wc)
  case first =>
    by_cases q0 : r = 0
    · subst q0
      go_wp2_with fail
      go_region
      all_goals
        go_wp2_with fail
        go_meet
        have ho := own_write (own_write HOW.out (k * 2) (by rw [pcells_length]; omega) (.int .i64 y)) (k * 2 + 1) (by rw [List.length_set, pcells_length]; omega) (.int .i64 x)
        rw [pcells_set0 _ _ _ _ _ HXY.out, pcells_set1 _ _ y y x (by simp [hk])] at ho
        simp only [List.set_set] at ho
        refine ⟨es.set k (y, x), some ⟨g2, 0, none⟩, c2, by simp, (by unfold Hid; simpa using hc2), (by unfold Hid; simp; omega), (own_reads1 ho).1, ?_, ?_, ?_⟩
        · have := HXP.out; exact wrong_set n es k y x hk (by omega)
        · exact heap_far (heap_far HG2.out (by dsimp only; omega) _) (by dsimp only; omega) _
        · (repeat (first | with_reducible exact Below.refl _ _ | with_reducible assumption | with_reducible refine below_drewN0 ?_ _ | with_reducible refine Below.drew ?_ | with_reducible refine Below.alloc ?_ ?_ _ | with_reducible refine Below.setCell ?_ ?_ _ | go_size))
    by_cases q1 : r = 1
    · subst q1
      go_wp2_with fail
      all_goals
        go_meet
        have ho := own_write HOW.out (k * 2) (by rw [pcells_length]; omega) (.int .i64 y)
        rw [pcells_set0 _ _ _ _ _ HXY.out] at ho
        refine ⟨es.set k (y, y), some ⟨g2, 0, none⟩, c2, by simp, (by unfold Hid; simpa using hc2), (by unfold Hid; simp; omega), (own_reads1 ho).1, ?_, ?_, ?_⟩
        · exact wrong_set n es k y y hk (by omega)
        · exact heap_far HG2.out (by dsimp only; omega) _
        · (repeat (first | with_reducible exact Below.refl _ _ | with_reducible assumption | with_reducible refine below_drewN0 ?_ _ | with_reducible refine Below.drew ?_ | with_reducible refine Below.alloc ?_ ?_ _ | with_reducible refine Below.setCell ?_ ?_ _ | go_size))
    by_cases q2 : r = 2
    · subst q2
      obtain ⟨a0, a1, a2, a3, a4⟩ := blk2 HG2.out
      go_wp2_with fail
      all_goals
        go_meet
        have ho := own_write HOW.out (k * 2 + 1) (by rw [pcells_length]; omega) (.int .i64 n)
        rw [pcells_set1 _ _ _ _ _ HXY.out] at ho
        refine ⟨es.set k (x, n), some ⟨g2, 0, none⟩, c2, by simp, (by unfold Hid; simpa using hc2), (by unfold Hid; simp; omega), (own_reads1 ho).1, ?_, ?_, ?_⟩
        · exact wrong_set n es k x n hk (by omega)
        · exact heap_far HG2.out (by dsimp only; omega) _
        · (repeat (first | with_reducible exact Below.refl _ _ | with_reducible assumption | with_reducible refine below_drewN0 ?_ _ | with_reducible refine Below.drew ?_ | with_reducible refine Below.alloc ?_ ?_ _ | with_reducible refine Below.setCell ?_ ?_ _ | go_size))
    obtain rfl : r = 3 := by omega
    have hlen := pcells_length es
    have hrW := (own_reads1 HOW.out).1
    have HS := Lib.hid (fun (w' : World) (h : Below w2.heap.size w2 w') => (⟨(h.cell (p := ⟨g2, k * 2, none⟩) hg2l).trans hX, (h.cell (p := ⟨g2, k * 2 + 1, none⟩) hg2l).trans hY⟩ : w'.cell? ⟨g2, k * 2, none⟩ = some (.int .i64 x) ∧ w'.cell? ⟨g2, k * 2 + 1, none⟩ = some (.int .i64 y)))
    have HRT : Hid (Reads w2 (some ⟨g2, 0, none⟩) (pcells (es.take k))) := by
      have := hrW.cut c2 0 k 2 (Nat.zero_le _) (by rw [hlen]; omega) (by rw [hlen]; omega) (by omega)
      rw [if_neg (by omega)] at this
      simp only [Nat.zero_mul, List.drop_zero, Option.map_some] at this
      rw [pcells_take]
      exact this
    have HRD : Hid (Reads w2 (some ⟨g2, k * 2, none⟩) (pcells (es.drop k))) := by
      have := hrW.cut c2 k es.length 2 (by omega) (by rw [hlen]; omega) (by rw [hlen]; omega) (by omega)
      rw [if_neg (by omega)] at this
      rw [addr_map, Nat.zero_add] at this
      rw [pcells_drop]
      rwa [List.take_of_length_le (by rw [hlen]; omega)] at this
    have HL1 : Hid ((pcells (es.take k)).length = k * 2) := by unfold Hid; rw [pcells_length]; simp; omega
    have HL2 : Hid ((pcells (es.drop k)).length = (es.length - k) * 2) := by unfold Hid; rw [pcells_length]; simp; omega
    have q3 : (k : Int) ≤ (c2 : Int) := by omega
    have q4 : (k : Int) ≤ (es.length : Int) := by omega
    have q5 : ¬ c2 = k := by omega
    clear hlen
    go_wp2_with fail
    go_region_held3 (fun w' => w'.cell? ⟨g2, k * 2, none⟩ = some (.int .i64 x) ∧ w'.cell? ⟨g2, k * 2 + 1, none⟩ = some (.int .i64 y)) (first | exact HS.out _ hb5 | exact HS.out _ hb4 | exact HS.out _ hb3 | exact HS.out _ (Below.alloc hb3 hb3.size _) | (refine HS.out _ ?_; (repeat (first | with_reducible exact Below.refl _ _ | with_reducible assumption | with_reducible refine below_drewN0 ?_ _ | with_reducible refine Below.drew ?_ | with_reducible refine Below.alloc ?_ ?_ _ | with_reducible refine Below.setCell ?_ ?_ _ | go_size)); done))
     (first
       | (refine step_app EI_edge rfl (.const (.slice none 0 0)) (.tmp 41) rfl w2.heap.size (.slice none 0 0) 0 [] rfl (own_nil0 _ _ _ _) _ k _ (pcells (es.take k)) rfl ?_ HL1.out (pcells_one _) ?_ ?_ ?_
          · exact HRT.out.below (by (repeat (first | with_reducible exact Below.refl _ _ | with_reducible assumption | with_reducible refine below_drewN0 ?_ _ | with_reducible refine Below.drew ?_ | with_reducible refine Below.alloc ?_ ?_ _ | with_reducible refine Below.setCell ?_ ?_ _ | go_size)))
          · omega
          · go_size
          intro v3 w3 hown3 hg3 hat3
          have hb3 : Below w2.heap.size w2 w3 := below_app (by (repeat (first | with_reducible exact Below.refl _ _ | with_reducible assumption | with_reducible refine below_drewN0 ?_ _ | with_reducible refine Below.drew ?_ | with_reducible refine Below.alloc ?_ ?_ _ | with_reducible refine Below.setCell ?_ ?_ _ | go_size))) hg3 (by go_size) (by simp [Value.ownBlock]))
       | (refine step_app EI_edge rfl (.tmp 42) (.tmp 47) rfl w2.heap.size v3 (0 + k) ([] ++ pcells (es.take k)) rfl ?_ (some ⟨_, 0, none⟩) 1 1 [.int .i64 x, .int .i64 y] rfl ?_ rfl ?_ ?_ ?_ ?_
          · first | exact hown3 | exact own_below0 hown3 (by (repeat (first | with_reducible exact Below.refl _ _ | with_reducible assumption | with_reducible refine below_drewN0 ?_ _ | with_reducible refine Below.drew ?_ | with_reducible refine Below.alloc ?_ ?_ _ | with_reducible refine Below.setCell ?_ ?_ _ | go_size)))
          · (first | exact reads_new _ [_, _] _ | (refine Reads.grown ?_ hg3 (by simp [Value.ownBlock]); exact reads_new _ [_, _] _))
          · simp [Value.oneCell']
          · omega
          · first | exact hb3.size | (have := hb3.size; go_size)
          intro v4 w4 hown4 hg4 hat4
          have hb4 : Below w2.heap.size w2 w4 := (by first | exact below_app hb3 hg4 hb3.size (fun g hg => (own_lt0 hown3 g hg).1) | exact below_app (Below.alloc hb3 hb3.size _) hg4 (by have := hb3.size; go_size) (fun g hg => (own_lt0 hown3 g hg).1)))
       | (refine step_app EI_edge rfl (.tmp 48) (.tmp 51) rfl w2.heap.size v4 (0 + k + 1) _ rfl hown4 _ (es.length - k) _ (pcells (es.drop k)) rfl ?_ HL2.out (pcells_one _) ?_ ?_ ?_
          · first | exact HRD.out.below hb4
          · omega
          · exact hb4.size
          intro v5 w5 hown5 hg5 hat5
          have hb5 : Below w2.heap.size w2 w5 := below_app hb4 hg5 hb4.size (fun g hg => (own_lt0 hown4 g hg).1)))
    all_goals
      go_wp2_with fail
      go_meet
      obtain ⟨A5, c5, rfl, hc5, hr5⟩ := own_reads0 hown5
      have hl5 : (es.take k ++ [(x, y)] ++ es.drop k).length = 0 + k + 1 + (es.length - k) := by simp; omega
      refine ⟨es.take k ++ [(x, y)] ++ es.drop k, A5, c5, by rw [hl5], (by unfold Hid; omega), (by unfold Hid; omega), ?_, wrong_twice n es k (x, y) HXY.out, (hb5.block w1.heap.size (by omega)).trans HG2.out, hb2.trans (hb5.mono (by omega))⟩
      unfold Hid
      rw [pcells_append, pcells_append]
      simpa [pcells] using hr5
  case rest =>
    obtain ⟨L, AL, cL, rfl, hLc, hLl, hrL, hbad, hGc, hbc⟩ := hcut
    obtain ⟨a0, a1, a2, a3, a4⟩ := blk2 hGc.out
    have HAb := fun W hR => add_bad n 0 1 L AL cL W hR hLc.out (by have := hLl.out; omega) hbad.out
    have HRb := fun W hR => remove_bad n 0 1 L AL cL W hR hLc.out (by have := hLl.out; omega) hbad.out
    have HNb := fun W hR => near_bad n 0 L AL cL W hR hLc.out (by have := hLl.out; omega) hbad.out
    have HRt := fun W hR => right_any n L AL cL W hR hLc.out (by have := hLl.out; omega)
    have HHb := fun a b W hR => has_any n a b L AL cL W hR hLc.out (by have := hLl.out; omega)
    have HIb := fun a b W hR => index_any n a b L AL cL W hR hLc.out (by have := hLl.out; omega)
    rw [hbad.out] at HRt
    have hh : ∀ a b, hasB n L a b = false := fun a b => by unfold hasB indexB; rw [hbad.out]; rfl
    have hi : ∀ a b, indexB n L a b = -1 := fun a b => by unfold indexB; rw [hbad.out]; rfl
    simp only [hh] at HHb
    simp only [hi] at HIb
    clear hh hi HCELL f0 f1 HOW HG2 hX hY
    go_upto_region 17 with (first
      | (go_at_call 57; refine (HAb _ (hrL.out.below ?_)).mono ?_; (repeat (first | with_reducible exact Below.refl _ _ | with_reducible assumption | with_reducible refine below_drewN0 ?_ _ | with_reducible refine Below.drew ?_ | with_reducible refine Below.alloc ?_ ?_ _ | with_reducible refine Below.setCell ?_ ?_ _ | go_size)); rintro e w3 ⟨rfl, hb3⟩
         have hc3 : Below wc.heap.size wc w3 := Below.trans (by (repeat (first | with_reducible exact Below.refl _ _ | with_reducible assumption | with_reducible refine below_drewN0 ?_ _ | with_reducible refine Below.drew ?_ | with_reducible refine Below.alloc ?_ ?_ _ | with_reducible refine Below.setCell ?_ ?_ _ | go_size))) (hb3.mono (by simp))
         obtain ⟨b0, b1, b2, b3, b4⟩ := blk2 ((hb3.block wc.heap.size (by simp)).trans (heap_alloc_new _ _)))
      | (go_at_call 59; refine (HRb _ (hrL.out.below ?_)).mono ?_; (repeat (first | with_reducible exact Below.refl _ _ | with_reducible assumption | with_reducible refine below_drewN0 ?_ _ | with_reducible refine Below.drew ?_ | with_reducible refine Below.alloc ?_ ?_ _ | with_reducible refine Below.setCell ?_ ?_ _ | go_size)); rintro e w4 ⟨rfl, hb4⟩
         have hc4 : Below wc.heap.size wc w4 := Below.trans (by (repeat (first | with_reducible exact Below.refl _ _ | with_reducible assumption | with_reducible refine below_drewN0 ?_ _ | with_reducible refine Below.drew ?_ | with_reducible refine Below.alloc ?_ ?_ _ | with_reducible refine Below.setCell ?_ ?_ _ | go_size))) (hb4.mono (by have := hc3.size; simp; omega))))
    obtain ⟨⟨x0, y0⟩, hxy0⟩ : ∃ e, es[0]? = some e := ⟨es[0], by simp⟩
    have hs3 := hc3.size
    have hs4 := hc4.size
    have hV : Below wc.heap.size wc (w4.alloc (Obj.cells #[Value.int .i64 0, Value.slice none 0 0] 25)) := by (repeat (first | with_reducible exact Below.refl _ _ | with_reducible assumption | with_reducible refine below_drewN0 ?_ _ | with_reducible refine Below.drew ?_ | with_reducible refine Below.alloc ?_ ?_ _ | with_reducible refine Below.setCell ?_ ?_ _ | go_size))
    have hB0 := Lib.hid (heap_old (o' := (Obj.cells #[Value.int .i64 0, Value.slice none 0 0] 25)) ((hb4.block wc.heap.size (by simp; omega)).trans (heap_old ((hb3.block wc.heap.size (by simp)).trans (heap_alloc_new _ _)))))
    generalize w4.alloc (Obj.cells #[Value.int .i64 0, Value.slice none 0 0] 25) = V at hV hB0 ⊢
    obtain ⟨b0', o0, rfl, hbl0, e1, e2⟩ := Reads.pair' ((hrd.below (hbc.trans (hV.mono (by omega))))) 0 _ hxy0
    simp only [Nat.zero_mul, Nat.add_zero] at e1 e2
    obtain ⟨v0, v1, v2, v3, v4⟩ := blk2 ((hV.block w1.heap.size a4).trans hGc.out)
    obtain ⟨u0, u1, u2, u3, u4⟩ := blk2 hB0.out
    have hrV := hrL.out.below hV
    have HXY0 := Lib.hid hxy0
    clear hxy0 hc3 hc4 hb3 hb4 b0 b1 b2 b3 b4 a0 a1 a2 a3 HAb HRb hB0 hg2
    have hp0 : (0 : Int) < (es.length : Int) := by omega
    have hp0n : 0 < es.length := by omega
    have HS := Lib.hid (fun (w' : World) (h : Below V.heap.size V w') => (⟨(h.cell (p := ⟨w1.heap.size, 0, none⟩) v4).trans v0, (h.cell (p := ⟨w1.heap.size, 1, none⟩) v4).trans v1, (h.cell (p := ⟨wc.heap.size, 0, none⟩) u4).trans u0, (h.cell (p := ⟨wc.heap.size, 1, none⟩) u4).trans u1, (h.cell (p := ⟨b0', o0, none⟩) hbl0).trans e1, (h.cell (p := ⟨b0', o0 + 1, none⟩) hbl0).trans e2⟩ :
      w'.cell? ⟨w1.heap.size, 0, none⟩ = some (.int .i64 n) ∧ w'.cell? ⟨w1.heap.size, 1, none⟩ = some (.slice (some ⟨b0', o0, none⟩) es.length c) ∧ w'.cell? ⟨wc.heap.size, 0, none⟩ = some (.int .i64 n) ∧ w'.cell? ⟨wc.heap.size, 1, none⟩ = some (.slice AL L.length cL) ∧ w'.cell? ⟨b0', o0, none⟩ = some (.int .i64 x0) ∧ w'.cell? ⟨b0', o0 + 1, none⟩ = some (.int .i64 y0)))
    go_region_held3 (fun w' => w'.cell? ⟨w1.heap.size, 0, none⟩ = some (.int .i64 n) ∧ w'.cell? ⟨w1.heap.size, 1, none⟩ = some (.slice (some ⟨b0', o0, none⟩) es.length c) ∧ w'.cell? ⟨wc.heap.size, 0, none⟩ = some (.int .i64 n) ∧ w'.cell? ⟨wc.heap.size, 1, none⟩ = some (.slice AL L.length cL) ∧ w'.cell? ⟨b0', o0, none⟩ = some (.int .i64 x0) ∧ w'.cell? ⟨b0', o0 + 1, none⟩ = some (.int .i64 y0))
      (first | exact HS.out _ hc9 | exact HS.out _ hc8 | exact HS.out _ hc7 | exact HS.out _ hc6 | exact HS.out _ hc5 | (refine HS.out _ ?_; (repeat (first | with_reducible exact Below.refl _ _ | with_reducible assumption | with_reducible refine below_drewN0 ?_ _ | with_reducible refine Below.drew ?_ | with_reducible refine Below.alloc ?_ ?_ _ | with_reducible refine Below.setCell ?_ ?_ _ | go_size)); done))
      (first
        | (go_at_call 25; refine (HA _).mono ?_; rintro e w5 ⟨rfl, hb5⟩; have hc5 : Below V.heap.size V w5 := Below.trans (by (repeat (first | with_reducible exact Below.refl _ _ | with_reducible assumption | with_reducible refine below_drewN0 ?_ _ | with_reducible refine Below.drew ?_ | with_reducible refine Below.alloc ?_ ?_ _ | with_reducible refine Below.setCell ?_ ?_ _ | go_size))) (hb5.mono (by simp)))
        | (go_at_call 31; refine (HRt _ (hrV.below ?_)).mono ?_; (repeat (first | with_reducible exact Below.refl _ _ | with_reducible assumption | with_reducible refine below_drewN0 ?_ _ | with_reducible refine Below.drew ?_ | with_reducible refine Below.alloc ?_ ?_ _ | with_reducible refine Below.setCell ?_ ?_ _ | go_size)); rintro e w6 ⟨rfl, hb6⟩; have hc6 : Below V.heap.size V w6 := Below.trans (by (repeat (first | with_reducible exact Below.refl _ _ | with_reducible assumption | with_reducible refine below_drewN0 ?_ _ | with_reducible refine Below.drew ?_ | with_reducible refine Below.alloc ?_ ?_ _ | with_reducible refine Below.setCell ?_ ?_ _ | go_size))) (hb6.mono (by have := hc5.size; go_size)))
        | (go_at_call 33; refine (HHb _ _ _ (hrV.below ?_)).mono ?_; (repeat (first | with_reducible exact Below.refl _ _ | with_reducible assumption | with_reducible refine below_drewN0 ?_ _ | with_reducible refine Below.drew ?_ | with_reducible refine Below.alloc ?_ ?_ _ | with_reducible refine Below.setCell ?_ ?_ _ | go_size)); rintro e w7 ⟨rfl, hb7⟩; have hc7 : Below V.heap.size V w7 := Below.trans (by (repeat (first | with_reducible exact Below.refl _ _ | with_reducible assumption | with_reducible refine below_drewN0 ?_ _ | with_reducible refine Below.drew ?_ | with_reducible refine Below.alloc ?_ ?_ _ | with_reducible refine Below.setCell ?_ ?_ _ | go_size))) (hb7.mono (by have := hc6.size; go_size)))
        | (go_at_call 38; refine (HNb _ (hrV.below ?_)).mono ?_; (repeat (first | with_reducible exact Below.refl _ _ | with_reducible assumption | with_reducible refine below_drewN0 ?_ _ | with_reducible refine Below.drew ?_ | with_reducible refine Below.alloc ?_ ?_ _ | with_reducible refine Below.setCell ?_ ?_ _ | go_size)); rintro e w8 ⟨rfl, hb8⟩; have hc8 : Below V.heap.size V w8 := Below.trans (by (repeat (first | with_reducible exact Below.refl _ _ | with_reducible assumption | with_reducible refine below_drewN0 ?_ _ | with_reducible refine Below.drew ?_ | with_reducible refine Below.alloc ?_ ?_ _ | with_reducible refine Below.setCell ?_ ?_ _ | go_size))) (hb8.mono (by have := hc7.size; go_size)))
        | (go_at_call 35; refine (HIb _ _ _ (hrV.below ?_)).mono ?_; (repeat (first | with_reducible exact Below.refl _ _ | with_reducible assumption | with_reducible refine below_drewN0 ?_ _ | with_reducible refine Below.drew ?_ | with_reducible refine Below.alloc ?_ ?_ _ | with_reducible refine Below.setCell ?_ ?_ _ | go_size)); rintro e w9 ⟨rfl, hb9⟩; have hc9 : Below V.heap.size V w9 := Below.trans (by (repeat (first | with_reducible exact Below.refl _ _ | with_reducible assumption | with_reducible refine below_drewN0 ?_ _ | with_reducible refine Below.drew ?_ | with_reducible refine Below.alloc ?_ ?_ _ | with_reducible refine Below.setCell ?_ ?_ _ | go_size))) (hb9.mono (by have := hc8.size; go_size))))
    all_goals
      go_wp2_with fail
      go_ret
      exact ⟨rfl, hb1.trans ((hbc.mono hb1.size).trans ((hV.mono (by have := hb1.size; omega)).trans (hc9.mono (by have := hb1.size; have := hV.size; omega))))⟩

end Go.Proofs.Ytglhdoibglafbaa
