/- The sort's worlds: what the shelf says of them, in my words. -/
import Derived.Test.YtglhdoibglafbaaU20
import Derived.Test.YtglhdoibglafbaaU08
import Derived.Shelf.SlSortCmp.InsertionK
namespace Go.Proofs.Ytglhdoibglafbaa
open Go Go.RowKit
set_option maxRecDepth 100000
set_option linter.unusedVariables false
set_option linter.unusedSimpArgs false

def encP (x : PE) : List Value := [.int .i64 x.1, .int .i64 x.2]
theorem flat_pcells (l : List PE) : Sort.flatK encP 2 l.toArray = (pcells l).toArray := by
  refine Sort.ext_get! (by simp [pcells_length, Nat.mul_comm]) fun t ht => ?_
  have ht' : t < l.length * 2 := by simpa using ht
  rw [Sort.get_flatK _ _ _ _ (by simpa using ht')]
  have h2 : t / 2 < l.length := by omega
  obtain ⟨e, he⟩ : ∃ e, l[t / 2]? = some e := ⟨l[t / 2], by simp⟩
  obtain ⟨p0, p1⟩ := pcells_get l (t / 2) e he
  have hle : l.toArray[t / 2]! = e := by
    rw [getElem!_pos l.toArray (t / 2) (by simpa using h2)]
    simpa using (List.getElem?_eq_some_iff.1 he).2
  rw [hle]
  have hlt : t < (pcells l).toArray.size := by simp [pcells_length]; omega
  rw [getElem!_pos (pcells l).toArray t hlt]
  rcases Nat.mod_two_eq_zero_or_one t with h | h
  · have e1 : 2 * (t / 2) = t := by omega
    rw [e1] at p0
    have := (List.getElem?_eq_some_iff.1 p0).2
    rw [h]
    simpa [encP] using this.symm
  · have e1 : 2 * (t / 2) + 1 = t := by omega
    rw [e1] at p1
    have := (List.getElem?_eq_some_iff.1 p1).2
    rw [h]
    simpa [encP] using this.symm

theorem holds_of {w : World} {g : Nat} {cur : List Value} {T : TypeId} {l : List PE} (h : w.heap[g]? = some (.cells cur.toArray T (0, 0))) (ht : cur.take (l.length * 2) = pcells l) : Sort.HoldsK encP 2 w g 0 l.toArray := by
  unfold Sort.HoldsK
  rw [flat_pcells]
  intro j hj
  have hj' : j < (pcells l).length := by simpa using hj
  refine ⟨?_, by rw [Nat.zero_add]; exact blkf0 h j⟩
  rw [Nat.zero_add]
  refine blkc0 h j _ ?_
  rw [getElem!_pos (pcells l).toArray j hj]
  have hlt : j < l.length * 2 := by rw [pcells_length] at hj'; omega
  have h1 : (cur.take (l.length * 2))[j]? = (pcells l)[j]? := by rw [ht]
  rw [List.getElem?_take, if_pos hlt] at h1
  rw [List.getElem?_toArray, h1]
  simp

theorem reads_holds {w : World} {g : Nat} {d : Array PE} (h : Sort.HoldsK encP 2 w g 0 d) (hg : g < w.heap.size) : Reads w (some ⟨g, 0, none⟩) (pcells d.toList) := by
  have hf := flat_pcells d.toList
  rw [show d.toList.toArray = d by simp] at hf
  unfold Sort.HoldsK at h
  rw [hf] at h
  refine .inr ⟨g, 0, rfl, hg, fun j u hj => ?_⟩
  have hl := (List.getElem?_eq_some_iff.1 hj).1
  have h9 := (h j (by simpa using hl)).1
  rw [getElem!_pos (pcells d.toList).toArray j (by simpa using hl)] at h9
  rw [h9]
  rw [← hj]
  simp

theorem below_sort {w : World} {g m B : Nat} {d : Array PE} {os : Array Obj} (hB : B ≤ g) (hs : B ≤ w.heap.size) : Below B w (sortWorldK encP 2 w g 0 m d os) := by
  refine ⟨rfl, rfl, rfl, size_sortWorldK_c encP 2 w g 0 m d os, fun k hk => ?_⟩
  unfold sortWorldK Sort.grow Sort.putRowK Sort.putRow Sort.mapBlock Sort.ahead
  simp only
  rw [Array.getElem?_append_left (by simp; omega), Array.getElem?_modify, if_neg (by omega)]
end Go.Proofs.Ytglhdoibglafbaa

/- The waking call of the queue's laws. -/
namespace Go.Proofs.Ytglhdoibglafbaa
open Go Go.RowKit
set_option maxRecDepth 100000
set_option linter.unusedVariables false
set_option linter.unusedSimpArgs false

set_option maxHeartbeats 2000000 in
theorem awake07 (w : World) : Calls Try.prog 18 #[] w fun e w' => e = .returned (.bool true) ∧ Below w.heap.size w w' := by
  have hN := newF w
  have hp1 : putE [] ((5 : Int), (1 : Int)) = [(5, 1)] := by decide
  have hp2 : putE [((5 : Int), (1 : Int))] (3, 9) = [(3, 9), (5, 1)] := by decide
  have H1 := fun v W hq hB => pushF w.heap.size (w.heap.size + 1) v [] 5 1 W hq hB (by decide)
  have H2 := fun v W hq hB => pushF w.heap.size (w.heap.size + 1) v [(5, 1)] 3 9 W hq hB (by decide)
  have H3 := fun v W hq => popF w.heap.size (w.heap.size + 1) v (3, 9) [(5, 1)] W hq (by decide)
  have H4 := fun v W hq => lenF w.heap.size (w.heap.size + 1) v [(5, 1)] W hq
  rw [hp1] at H1
  rw [hp2] at H2
  clear hp1 hp2
  go_enter Try.func18, Try.ntmps18
  go_wp2_with (first
    | (go_at_call 17; go_loud (refine hN.mono ?_; rintro e w1 ⟨rfl, hq1, hb1, hs1⟩; clear hN; have HS1 := Lib.hid hs1; clear hs1))
    | (go_at_call 19; go_loud ((with_reducible refine (H1 _ _ hq1 (by have := HS1.out; omega)).mono ?_); rintro e w2 ⟨rfl, v2, hq2, ht2, hs2⟩; clear H1))
    | (go_at_call 19; go_loud ((with_reducible refine (H2 _ _ hq2 (by have := HS1.out; have := ht2.size; omega)).mono ?_); rintro e w3 ⟨rfl, v3, hq3, ht3, hs3⟩; clear H2))
    | (go_at_call 21; go_loud (refine (H3 _ _ hq3).mono ?_; rintro e w4 ⟨rfl, v4, hq4, ht4, hv4⟩))
    | (go_at_call 24; go_loud (refine (H4 v4 _ (hq4.below ?_)).mono ?_; (repeat (first | with_reducible exact Below.refl _ _ | with_reducible assumption | with_reducible refine below_drewN0 ?_ _ | with_reducible refine Below.drew ?_ | with_reducible refine Below.alloc ?_ ?_ _ | with_reducible refine Below.setCell ?_ ?_ _ | go_size | exact Below.size (by assumption))); rintro e w5 ⟨rfl, rfl⟩)))
  go_ret
  have b2 := ht2.toBelow (B0 := w.heap.size) (Nat.le_refl _) (fun g hg => by have := hq1.lt.2.2 g hg; omega) (by have := HS1.out; omega)
  have b3 := ht3.toBelow (B0 := w.heap.size) (Nat.le_refl _) (fun g hg => by have := hq2.lt.2.2 g hg; omega) (by have := hq2.lt.1; omega)
  have b4 := ht4.toBelow (B0 := w.heap.size) (Nat.le_refl _) (fun g hg => by have := hq3.lt.2.2 g hg; omega) (by have := hq3.lt.1; omega)
  refine ⟨rfl, ?_⟩
  have hb := hb1.trans (b2.trans (b3.trans b4))
  exact hb.alloc (by have := hq4.lt.1; omega) _
end Go.Proofs.Ytglhdoibglafbaa

/- The walk of the law QueueTurns. -/
namespace Go.Proofs.Ytglhdoibglafbaa
open Go Go.RowKit
set_option maxRecDepth 100000
set_option linter.unusedVariables false
set_option linter.unusedSimpArgs false

theorem mod_len1 (x : Int) (m : Nat) (h1 : m ≤ 4000) : ∃ k : Nat, k ≤ m ∧ wrap64 ((IntKind.u64.wrap x).tmod ((m : Int) + 1)) = k := by
  have h2 : 0 ≤ IntKind.u64.wrap x := by rw [IntKind.wrap_u64]; omega
  generalize IntKind.u64.wrap x = u at *
  have h3 := Int.tmod_nonneg ((m : Int) + 1) h2
  have h4 := Int.tmod_lt_of_pos u (show (0 : Int) < (m : Int) + 1 by omega)
  refine ⟨(wrap64 (u.tmod ((m : Int) + 1))).toNat, ?_, ?_⟩ <;> unfold wrap64 <;> omega

theorem sep_new {w1 w2 : World} {q B : Nat} {v : Value} {F : List PE} {A : Option Addr} {n c : Nat} {xs : List Value} {e : TypeId} (hq : QF w1 q B v F) (ho : w2.ownsRow w1.heap.size e 2 (.slice A n c) n xs) : Sep w2 q v A := fun a ha => by
  subst ha
  have h1 := own_lt0 ho a.block (by simp [Value.ownBlock])
  have h2 := hq.lt.1
  refine ⟨h1.2, by omega, fun e => ?_⟩
  have := (hq.lt.2.2 _ e).2
  omega
theorem Sep.below {w w' : World} {q : Nat} {v : Value} {A : Option Addr} (h : Sep w q v A) (hs : w.heap.size ≤ w'.heap.size) : Sep w' q v A := fun a ha => by
  obtain ⟨h1, h2, h3⟩ := h a ha
  exact ⟨by omega, h2, h3⟩
theorem Sep.cut {w : World} {q : Nat} {v : Value} {A : Option Addr} (h : Sep w q v A) (p : Prop) [Decidable p] (k : Nat) : Sep w q v (if p then A else A.map (·.add k)) := by
  split
  · exact h
  · intro a ha
    cases A with
    | none => simp at ha
    | some b =>
      obtain rfl : b.add k = a := by simpa using ha
      have := h b rfl
      unfold Addr.add
      split <;> exact this

theorem Reads.tail1 {w : World} {b o : Nat} {x : PE} {F : List PE} (h : Reads w (some ⟨b, o, none⟩) (pcells (x :: F))) : Reads w (some ⟨b, o + 2, none⟩) (pcells F) := by
  have hp : pcells (x :: F) = .int .i64 x.1 :: .int .i64 x.2 :: pcells F := rfl
  rw [hp] at h
  rcases h with h | ⟨b', o', heq, hb, hc⟩
  · cases h
  · simp only [Option.some.injEq, Addr.mk.injEq, and_true] at heq
    obtain ⟨rfl, rfl⟩ := heq
    refine .inr ⟨b, o + 2, rfl, hb, fun j u hj => ?_⟩
    have h9 := hc (j + 2) u (by simpa using hj)
    rwa [show o + 2 + j = o + (j + 2) by omega]

set_option maxHeartbeats 8000000 in
theorem turns_any (l : List PE) (A : Option Addr) (c : Nat) (k0 : Int) (w : World) (hr : Reads w A (pcells l)) (hc : l.length ≤ c) (hm : l.length ≤ 4611686018427387903) :
    Calls Try.prog 4 #[.slice A l.length c, .int .i64 k0] w fun e w' => e = .returned (.bool true) ∧ Below w.heap.size w w' := by
  have HA := fun W => awake07 W
  have hN := newF w
  by_cases h60 : 60 < l.length
  · have h60' : decide ((60 : Int) < (l.length : Int)) = true := decide_eq_true (by omega)
    go_enter Try.func4, Try.ntmps4
    go_wp2_with (first
      | (go_at_call 17; go_loud (refine hN.mono ?_; rintro e w1 ⟨rfl, hq1, hb1, hs1⟩; clear hN hs1))
      | (go_at_call 18; go_loud (refine (HA _).mono ?_; rintro e w2 ⟨rfl, hb2⟩; have hb1' := hb1.trans (hb2.mono hb1.size); clear hb1 hb2; have hb1 := hb1'; clear hb1')))
    go_ret
    exact ⟨rfl, hb1⟩
  have h60' : decide ((60 : Int) < (l.length : Int)) = false := decide_eq_false (by omega)
  obtain ⟨K, hK, hKm⟩ := mod_len1 k0 l.length (by omega)
  have hwl : IntKind.u64.wrap ((l.length : Int) + 1) = (l.length : Int) + 1 := by rw [IntKind.wrap_u64]; omega
  have hz : ¬ ((l.length : Int) + 1 = 0) := by omega
  have hz' : ((l.length : Int) + 1 == 0) = false := by simp; omega
  go_enter Try.func4, Try.ntmps4
  go_upto_region 5 with (first
    | (go_at_call 17; go_loud (refine hN.mono ?_; rintro e w1 ⟨rfl, hq1, hb1, hs1⟩; clear hN; have HS1 := Lib.hid hs1; clear hs1))
    | (go_at_call 18; go_loud (refine (HA _).mono ?_; rintro e w2 ⟨rfl, hb2⟩)))
  rw [hKm]
  have hq2 := hq1.below hb2
  have hb12 := hb1.trans (hb2.mono hb1.size)
  have hs2 : w.heap.size + 1 ≤ w2.heap.size := by have := HS1.out; have := hb2.size; omega
  have HQ2 := Lib.hid hq2
  have h61 : l.length ≤ 60 := by omega
  clear hKm hwl hz hz' hq1 hb1 HS1 hb2 hq2 h60 h60'
  go_wp2_with fail
  go_loopw [6] (fun i wr => ∃ (j : Nat) (v : Value), j ≤ K ∧ i = .int .i64 j ∧ Hid (QF wr w.heap.size (w.heap.size + 1) v (sortL (l.take j))) ∧ Below w.heap.size w wr) (fun i _ => K - (intOf i).toNat)
  case atStart => exact ⟨0, _, Nat.zero_le _, rfl, HQ2, hb12⟩
  case round =>
    clear HQ2 hb12 hs2 w2
    obtain ⟨j, v, hj, rfl, hQ, hb⟩ := hrel
    by_cases hjK : j < K
    · obtain ⟨e, he⟩ : ∃ e, l[j]? = some e := ⟨l[j], by simp⟩
      obtain ⟨b, o, rfl, hbl, e1, e2⟩ := (hr.below hb).pair' j e he
      have HS := Lib.hid (sortL_one l j e he)
      have jI : (j : Int) < (l.length : Int) := by omega
      have hl1 : (sortL (l.take j)).length < 2000000 := by rw [sortL_length, List.length_take]; omega
      clear he
      go_wp2_with (go_at_call 19; go_loud (refine (pushF _ _ _ _ e.1 e.2 _ hQ.out (by have := hQ.out.lt.1; omega) hl1).mono ?_; rintro e' w3 ⟨rfl, v3, hq3, ht3, hs3⟩))
      go_roundw
      case rel =>
        refine ⟨j + 1, v3, by omega, by go_num, by rw [HS.out]; exact hq3, hb.trans (ht3.toBelow (Nat.le_refl _) (fun g hg => by have := hQ.out.lt.2.2 g hg; omega) hb.size)⟩
      case measure => simp [intOf]; omega
    · obtain rfl : j = K := by omega
      have hlt : (l.take j).length = j := by rw [List.length_take]; omega
      have hrl := (hr.below hb)
      have hrt : Reads wr A (pcells (l.take j)) := by
        have h9 := List.take_append_drop j l
        rw [← h9, pcells_append] at hrl
        exact hrl.front
      have HSo := fun W hR => sortedQ (l.take j) A c W hR (by rw [hlt]; omega) (by rw [hlt]; omega)
      rw [hlt] at HSo
      have hsl : (sortL (l.take j)).length = j := by rw [sortL_length, hlt]
      have hjc : (j : Int) ≤ (c : Int) := by omega
      clear hrl hlt
      go_upto_region 10 with (go_at_call 20; go_loud (refine (HSo _ hrt).mono ?_; rintro e' w3 ⟨v3, rfl, ho3, hb3⟩; obtain ⟨A3, c3, rfl, hc3, hr3⟩ := own_reads0 ho3))
      have hsp := Lib.hid (sep_new hQ.out ho3)
      have HQ3 := Lib.hid (hQ.out.below hb3)
      have hb4 := hb.trans (hb3.mono hb.size)
      have HR3 := Lib.hid hr3
      have HL := Lib.hid hsl
      clear ho3 hrt HSo hQ hb hb3 hr3 hsl wr hm hj
      generalize sortL (l.take j) = F at HQ3 HR3 HL
      go_upto_if 53 with fail
      go_cut [7] (fun v7 wc => ∃ (v' : Value) (F : List PE) (Af : Option Addr) (cf : Nat), v7 = .slice Af F.length cf ∧ F.length ≤ cf ∧ F.length ≤ j ∧ Hid (QF wc w.heap.size (w.heap.size + 1) v' F) ∧ Hid (Reads wc Af (pcells F)) ∧ Hid (Sep wc w.heap.size v' Af) ∧ Below w.heap.size w wc)
      case first =>
        cases F with
        | nil =>
          obtain rfl : j = 0 := HL.out.symm
          go_wp2_with fail
          go_meet
          exact ⟨v, [], A3, c3, rfl, by simp, by simp, HQ3, HR3, hsp, hb4⟩
        | cons x F =>
          have HL1 : Hid (F.length + 1 = j) := HL.out
          have hj1 : 1 ≤ j := by have := HL1.out; omega
          have hj2 : F.length ≤ j := by have := HL1.out; omega
          clear HL
          have d0 : decide ((0 : Int) < (j : Int)) = true := decide_eq_true (by omega)
          have HPo := fun W hQ => popF w.heap.size (w.heap.size + 1) v x F W hQ (by omega)
          go_upto_region 12 with (go_at_call 21; go_loud (refine (HPo _ HQ3.out).mono ?_; rintro e' w4 ⟨rfl, v4, hq4, ht4, hv4⟩))
          have hb5 := hb4.trans (ht4.toBelow (Nat.le_refl _) (fun g hg => by have := HQ3.out.lt.2.2 g hg; omega) hb4.size)
          have hr5 := (HR3.out.touch ht4 hsp.out).below (Below.refl _ w4 |>.alloc (Nat.le_refl _) (Obj.cells #[Value.int .i64 x.1, Value.int .i64 x.2] 39))
          have hq5 := Lib.hid (hq4.below (Below.refl _ w4 |>.alloc (Nat.le_refl _) (Obj.cells #[Value.int .i64 x.1, Value.int .i64 x.2] 39)))
          have hs5 := Lib.hid ((hsp.out.push ht4.size (SameOr.same hv4)).below (w' := w4.alloc (Obj.cells #[Value.int .i64 x.1, Value.int .i64 x.2] 39)) (by simp))
          have hb6 := hb5.alloc hb5.size (Obj.cells #[Value.int .i64 x.1, Value.int .i64 x.2] 39)
          have hX := blk2 (heap_alloc_new w4 (Obj.cells #[Value.int .i64 x.1, Value.int .i64 x.2] 39))
          generalize hW : w4.alloc (Obj.cells #[Value.int .i64 x.1, Value.int .i64 x.2] 39) = W5 at *
          clear hW HPo ht4 hv4 hq4 HQ3 HR3 hsp hb5 hb4
          obtain ⟨b, o, rfl, hbl, e1, e2⟩ := hr5.pair' 0 x rfl
          have HR5 := Lib.hid hr5
          clear hr5
          obtain ⟨x0, x1, x2, x3, x4⟩ := hX
          have e1' : W5.cell? ⟨b, o, none⟩ = some (.int .i64 x.1) := by simpa using e1
          have e2' : W5.cell? ⟨b, o + 1, none⟩ = some (.int .i64 x.2) := by simpa using e2
          have dj : (0 : Int) < (j : Int) := by omega
          clear e1 e2
          go_quiet (fail)
          go_wp2_with fail
          have hbn : Below W5.heap.size W5 (W5.drewN nq) := by (repeat (first | with_reducible exact Below.refl _ _ | with_reducible assumption | with_reducible refine below_drewN0 ?_ _ | with_reducible refine Below.drew ?_ | with_reducible refine Below.alloc ?_ ?_ _ | with_reducible refine Below.setCell ?_ ?_ _ | go_size | exact Below.size (by assumption)))
          have hbe : Below w.heap.size w (W5.drewN nq) := hb6.trans (hbn.mono hb6.size)
          · go_meet
            have hF : F = [] := List.eq_nil_of_length_eq_zero (by have := HL1.out; omega)
            subst hF
            obtain rfl : 1 = j := HL1.out
            exact ⟨v4, [], some ⟨b, o, none⟩, 0, rfl, by simp, by simp, hq5.out.below hbn, .inl rfl, hs5.out.below hbn.size, hbe⟩
          · have hbn : Below W5.heap.size W5 (W5.drewN nq) := by (repeat (first | with_reducible exact Below.refl _ _ | with_reducible assumption | with_reducible refine below_drewN0 ?_ _ | with_reducible refine Below.drew ?_ | with_reducible refine Below.alloc ?_ ?_ _ | with_reducible refine Below.setCell ?_ ?_ _ | go_size | exact Below.size (by assumption)))
            have hbe : Below w.heap.size w (W5.drewN nq) := hb6.trans (hbn.mono hb6.size)
            go_meet
            have hjm : j - 1 = F.length := by have := HL1.out; omega
            refine ⟨v4, F, some ⟨b, o + 2, none⟩, c3 - 1, by rw [hjm], by omega, by omega, hq5.out.below hbn, HR5.out.tail1.below hbn, ?_, hbe⟩
            exact fun a ha => by cases ha; exact hs5.out.below hbn.size ⟨b, o, none⟩ rfl
      case rest =>
        clear HL HR3 HQ3 hsp hb4 F
        obtain ⟨v5, F, Af, cf, rfl, hcf, hFj, HQ, HR, HSp, hb⟩ := hcut
        go_upto_region 16 with fail
        go_loopw [7, 10] (fun v7 i wr => ∃ (m : Nat) (v : Value) (F : List PE) (Af : Option Addr) (cf : Nat), j ≤ m ∧ m ≤ l.length ∧ i = .int .i64 m ∧ v7 = .slice Af F.length cf ∧ F.length ≤ cf ∧ F.length ≤ m ∧ Hid (QF wr w.heap.size (w.heap.size + 1) v F) ∧ Hid (Reads wr Af (pcells F)) ∧ Hid (Sep wr w.heap.size v Af) ∧ Below w.heap.size w wr) (fun _ i _ => l.length - (intOf i).toNat)
        case atStart => exact ⟨j, v5, F, Af, cf, Nat.le_refl _, hK, rfl, rfl, hcf, hFj, HQ, HR, HSp, hb⟩
        case round =>
          clear HQ HR HSp hb hcf hFj hjK hc3 F v5 Af cf wc
          obtain ⟨m, v, F, Af, cf, hjm, hml, rfl, rfl, hcf, hFm, HQ, HR, HSp, hb⟩ := hrel
          by_cases hm : m < l.length
          · obtain ⟨e, he⟩ : ∃ e, l[m]? = some e := ⟨l[m], by simp⟩
            obtain ⟨b, o, rfl, hbl, e1, e2⟩ := hr.pair' m e he
            have HC := Lib.hid (fun (W : World) (h : Below w.heap.size w W) => (⟨(h.cell (p := ⟨b, o + m * 2, none⟩) hbl).trans e1, (h.cell (p := ⟨b, o + m * 2 + 1, none⟩) hbl).trans e2⟩ : W.cell? ⟨b, o + m * 2, none⟩ = some (.int .i64 e.1) ∧ W.cell? ⟨b, o + m * 2 + 1, none⟩ = some (.int .i64 e.2)))
            have mI : (m : Int) < (l.length : Int) := by omega
            have HPu := fun W hR => putQ F e.1 e.2 Af cf W hR hcf (by omega)
            obtain ⟨y1, y2⟩ := HC.out wr hb
            clear he e1 e2 hr
            go_wp2_with (first
              | (go_at_call 19; go_loud (refine (pushF _ _ _ _ e.1 e.2 _ HQ.out (by have := HQ.out.lt.1; omega) (by omega)).mono ?_; rintro e' w4 ⟨rfl, v4, hq4, ht4, hs4⟩; have hb4 := hb.trans (ht4.toBelow (Nat.le_refl _) (fun g hg => by have := HQ.out.lt.2.2 g hg; omega) hb.size); clear y1 y2; obtain ⟨y1, y2⟩ := HC.out w4 hb4))
              | (go_at_call 22; go_loud (refine (HPu _ (HR.out.touch ht4 HSp.out)).mono ?_; rintro e' w6 ⟨v6, rfl, ho6, hb6⟩; obtain ⟨A6, c6, rfl, hc6, hr6⟩ := own_reads0 ho6)))
            go_roundw
            case rel => exact ⟨m + 1, v4, putE F (e.1, e.2), A6, c6, by omega, by omega, by go_num, by rw [putE_length], by rw [putE_length]; exact hc6, by rw [putE_length]; omega, hq4.below hb6, hr6, sep_new hq4 ho6, hb4.trans (hb6.mono hb4.size)⟩
            case measure => simp [intOf]; omega
          · obtain rfl : m = l.length := by omega
            clear hr hjm hml hm
            go_upto_region 21 with fail
            go_loopw [11] (fun i wx => ∃ (n : Nat) (v : Value), n ≤ F.length ∧ i = .int .i64 n ∧ Hid (QF wx w.heap.size (w.heap.size + 1) v (F.drop n)) ∧ Hid (Reads wx Af (pcells F)) ∧ Hid (Sep wx w.heap.size v Af) ∧ Below w.heap.size w wx) (fun i _ => F.length - (intOf i).toNat)
            case atStart => exact ⟨0, v, Nat.zero_le _, rfl, HQ, HR, HSp, hb⟩
            case round =>
              clear HQ HR HSp hb v
              obtain ⟨n, v, hn, rfl, HQ, HR, HSp, hb⟩ := hrel
              by_cases hnF : n < F.length
              · obtain ⟨x, hx⟩ : ∃ x, F[n]? = some x := ⟨F[n], by simp⟩
                have hd : F.drop n = x :: F.drop (n + 1) := by
                  rw [List.drop_eq_getElem_cons hnF, (List.getElem?_eq_some_iff.1 hx).2]
                have HX := Lib.hid hx
                have HQ1 : Hid (QF wr w.heap.size (w.heap.size + 1) v (x :: F.drop (n + 1))) := hd ▸ HQ.out
                have nI : (n : Int) < (F.length : Int) := by omega
                have HPk := fun W hQ => peekF w.heap.size (w.heap.size + 1) v x (F.drop (n + 1)) W hQ
                have HPo := fun W hQ => popF w.heap.size (w.heap.size + 1) v x (F.drop (n + 1)) W hQ (by simp; omega)
                clear hx hd HQ
                go_upto_region 24 with (go_at_call 23; go_loud (refine (HPk _ HQ1.out).mono ?_; rintro e' w4 ⟨rfl, hb4⟩))
                have hbW : Below wr.heap.size wr (w4.alloc (Obj.cells #[Value.int .i64 x.1, Value.int .i64 x.2] 39)) := hb4.alloc hb4.size _
                have hH5 := heap_alloc_new w4 (Obj.cells #[Value.int .i64 x.1, Value.int .i64 x.2] 39)
                generalize hW : w4.alloc (Obj.cells #[Value.int .i64 x.1, Value.int .i64 x.2] 39) = W5 at *
                have hq5 := HQ1.out.below hbW
                have hr5 := HR.out.below hbW
                have hs5 := HSp.out.below hbW.size
                have hb5 := hb.trans (hbW.mono hb.size)
                have hvl := hq5.lt.2.2
                have hql := HQ1.out.lt.1
                have hvl4 : ∀ g, v.ownBlock = some g → g < wr.heap.size := fun g hg => (HQ1.out.lt.2.2 g hg).2
                have hl4 := hb4.size
                have hl5 := heap_lt0 hH5
                clear hW hbW HQ1 HR HSp hb HPk
                go_upto_region 25 with (go_at_call 21; go_loud (refine (HPo _ hq5).mono ?_; rintro e' w6 ⟨rfl, v6, hq6, ht6, hv6⟩))
                have hb6 := hb5.trans (ht6.toBelow (Nat.le_refl _) (fun g hg => by have := hvl g hg; omega) hb5.size)
                have hbn : Below w6.heap.size w6 (w6.alloc (Obj.cells #[Value.int .i64 x.1, Value.int .i64 x.2] 39)) := (Below.refl _ w6).alloc (Nat.le_refl _) _
                obtain ⟨y0, y1, _, _, _⟩ := blk2 (heap_alloc_new w6 (Obj.cells #[Value.int .i64 x.1, Value.int .i64 x.2] 39))
                obtain ⟨x0, x1, _, _, _⟩ := blk2 ((hbn.block _ (Nat.lt_of_lt_of_le hl5 ht6.size)).trans ((ht6.block w4.heap.size hl5 (by omega) (fun h9 => by have := hvl4 _ h9; omega)).trans hH5))
                generalize hW : w6.alloc (Obj.cells #[Value.int .i64 x.1, Value.int .i64 x.2] 39) = W7 at *
                have hr7 := (hr5.touch ht6 hs5).below hbn
                have HS7 := Lib.hid ((hs5.push ht6.size (SameOr.same hv6)).below hbn.size)
                have HQ7 := Lib.hid (hq6.below hbn)
                have hb7 := hb6.trans (hbn.mono hb6.size)
                obtain ⟨b, o, rfl, hbl, e1, e2⟩ := hr7.pair' n x HX.out
                have HR7 := Lib.hid hr7
                clear hW hr7 hr5 hs5 ht6 hq6 hv6 hq5 hvl hvl4 HPo hb5 hb6 hH5
                go_quiet (fail)
                go_wp2_with fail
                go_roundw
                have hbd : Below W7.heap.size W7 (W7.drewN nq) := by (repeat (first | with_reducible exact Below.refl _ _ | with_reducible assumption | with_reducible refine below_drewN0 ?_ _ | with_reducible refine Below.drew ?_ | with_reducible refine Below.alloc ?_ ?_ _ | with_reducible refine Below.setCell ?_ ?_ _ | go_size | exact Below.size (by assumption)))
                case rel => exact ⟨n + 1, v6, by omega, by go_num, HQ7.out.below hbd, HR7.out.below hbd, HS7.out.below hbd.size, hb7.trans (hbd.mono hb7.size)⟩
                case measure => simp [intOf]; omega
              · obtain rfl : n = F.length := by omega
                have HLn := fun W hQ => lenF w.heap.size (w.heap.size + 1) v [] W hQ
                rw [List.drop_length] at HQ
                go_wp2_with (go_at_call 24; go_loud (refine (HLn _ HQ.out).mono ?_; rintro e' w4 ⟨rfl, rfl⟩))
                go_ret
                exact ⟨rfl, hb⟩
end Go.Proofs.Ytglhdoibglafbaa

/- Peek, Pop at the queue that holds nothing. -/
namespace Go.Proofs.Ytglhdoibglafbaa
open Go Go.RowKit
set_option maxRecDepth 100000
set_option linter.unusedVariables false
set_option linter.unusedSimpArgs false

theorem peekNil (q B : Nat) (v : Value) (w : World) (hq : QF w q B v []) :
    Calls Try.prog 23 #[.pointer (some ⟨q, 0, none⟩)] w fun e w' => e = .returned (.tuple #[.agg #[.int .i64 0, .int .i64 0], .int .i64 16]) ∧ Below w.heap.size w w' := by
  obtain ⟨es, h1, h2, h3, h4⟩ := hq
  obtain rfl := List.perm_nil.1 h3
  obtain ⟨A, c, rfl, hc, hr⟩ := own_reads0 h1.own
  have hcell := h1.cell
  have hql := h1.lt
  clear h1 h2 h3 h4 hr hc
  simp only [List.length_nil] at *
  go_enter Try.func23, Try.ntmps23
  go_wp2_with fail
  refine bodyPost_ret (v := .tuple #[.agg #[.int .i64 0, .int .i64 0], .int .i64 16]) (by simp [results, Try.results23, go_sem]) rfl ?_
  exact ⟨rfl, by (repeat (first | with_reducible exact Below.refl _ _ | with_reducible assumption | with_reducible refine below_drewN0 ?_ _ | with_reducible refine Below.drew ?_ | with_reducible refine Below.alloc ?_ ?_ _ | with_reducible refine Below.setCell ?_ ?_ _ | go_size | exact Below.size (by assumption)))⟩

set_option maxHeartbeats 2000000 in
theorem popNil (q B : Nat) (v : Value) (w : World) (hq : QF w q B v []) :
    Calls Try.prog 21 #[.pointer (some ⟨q, 0, none⟩)] w fun e w' => e = .returned (.tuple #[.agg #[.int .i64 0, .int .i64 0], .int .i64 16]) ∧ Below w.heap.size w w' := by
  have HPk := fun W hQ => peekNil q B v W hQ
  have HQ := Lib.hid hq
  have hql := hq.lt.1
  clear hq
  go_enter Try.func21, Try.ntmps21
  go_wp2_with (go_at_call 23; go_loud (refine (HPk _ (HQ.out.below ?_)).mono ?_; (repeat (first | with_reducible exact Below.refl _ _ | with_reducible assumption | with_reducible refine below_drewN0 ?_ _ | with_reducible refine Below.drew ?_ | with_reducible refine Below.alloc ?_ ?_ _ | with_reducible refine Below.setCell ?_ ?_ _ | go_size | exact Below.size (by assumption))); rintro e w1 ⟨rfl, hb1⟩; have hw1 : Below w.heap.size w w1 := Below.trans (by (repeat (first | with_reducible exact Below.refl _ _ | with_reducible assumption | with_reducible refine below_drewN0 ?_ _ | with_reducible refine Below.drew ?_ | with_reducible refine Below.alloc ?_ ?_ _ | with_reducible refine Below.setCell ?_ ?_ _ | go_size | exact Below.size (by assumption)))) (hb1.mono (by simp)); have HG := Lib.hid ((hb1.block w.heap.size (by simp)).trans (heap_alloc_new w _)); obtain ⟨a0, a1, a2, a3, a4⟩ := blk2 HG.out))
  have hs1 := hw1.size
  have hz := blk_put (cs := [Value.int IntKind.i64 0, Value.int IntKind.i64 0]) (blk_put (cs := [Value.int IntKind.i64 0, Value.int IntKind.i64 0]) HG.out 0 (.int .i64 0)) 1 (.int .i64 0)
  obtain ⟨c0, c1, _, _, _⟩ := blk2 (heap_old (o' := Obj.cells #[Value.int IntKind.i64 0, Value.int IntKind.i64 0] 39) hz)
  refine bodyPost_ret (v := .tuple #[.agg #[.int .i64 0, .int .i64 0], .int .i64 16]) (by simp [results, Try.results21, go_sem, c0, c1]) rfl ?_
  exact ⟨rfl, by (repeat (first | with_reducible exact Below.refl _ _ | with_reducible assumption | with_reducible refine below_drewN0 ?_ _ | with_reducible refine Below.drew ?_ | with_reducible refine Below.alloc ?_ ?_ _ | with_reducible refine Below.setCell ?_ ?_ _ | go_size | exact Below.size (by assumption)))⟩
end Go.Proofs.Ytglhdoibglafbaa
