/- The walk of the law QueueSorts, over a contract of queue.Sorted. -/
import Derived.Test.YtglhdoibglafbaaQ9
import Derived.Test.YtglhdoibglafbaaQE
import Derived.Test.YtglhdoibglafbaaHN
namespace Go.Proofs.Ytglhdoibglafbaa
open Go Go.RowKit
set_option maxRecDepth 100000
set_option linter.unusedVariables false

def SortedPost (l : List PE) (w : World) (e : Ending) (w' : World) : Prop :=
  ∃ A c, e = .returned (.slice A l.length c) ∧ l.length ≤ c ∧ Reads w' A (pcells (sortL l)) ∧ Below w.heap.size w w'

set_option maxHeartbeats 8000000 in
theorem sorts_of (HSD : ∀ (l : List PE) (A : Option Addr) (c : Nat) (w : World), Reads w A (pcells l) → l.length ≤ c → l.length ≤ 90000 → Calls Try.prog 55 #[.slice A l.length c] w (SortedPost l w))
    (l : List PE) (A : Option Addr) (c : Nat) (w : World) (hr : Reads w A (pcells l)) (hc : l.length ≤ c) (hm : l.length ≤ 4611686018427387903) :
    Calls Try.prog 10 #[.slice A l.length c] w fun e w' => e = .returned (.bool true) ∧ Below w.heap.size w w' := by
  have HA := fun W => awake07 W
  by_cases h60 : 100 < l.length
  · have h60' : decide ((100 : Int) < (l.length : Int)) = true := decide_eq_true (by omega)
    go_enter Try.func10, Try.ntmps10
    go_wp2_with (go_at_call 18; go_loud (refine (HA _).mono ?_; rintro e w2 ⟨rfl, hb2⟩))
    go_ret
    exact ⟨rfl, hb2⟩
  have h60' : decide ((100 : Int) < (l.length : Int)) = false := decide_eq_false (by omega)
  have HO := fun W hR => ownN l 71 0 A c W hR hc (by omega)
  have HW := fun W hR => sortedQ l A c W hR hc (by omega)
  have HS := fun g W hR => HSD l (some ⟨g, 0, none⟩) (l.length + 3) W hR (by omega) (by omega)
  have HP := fun A1 A2 c1 c2 W h1 h2 hc1 hc2 => sameN_plain (sortL l) (sortL l) A1 A2 c1 c2 W h1 h2 hc1 hc2 (by rw [sortL_length]; omega) (by rw [sortL_length]; omega)
  simp only [sortL_length, decide_true] at HP
  have HK := fun g W hR hG => keptN l 71 0 g A c W hR hc (by omega) hG
  have hsl := Lib.hid (sortL_length l)
  clear HSD
  go_enter Try.func10, Try.ntmps10
  go_upto_region 7 with (first
    | (go_at_call 53; go_loud (refine (HO _ hr).mono ?_; rintro e w1 ⟨g, rfl, hg, hG, hb1⟩; have HG1 := Lib.hid hG; clear hG))
    | (go_at_call 20; go_loud (refine (HW _ (hr.below hb1)).mono ?_; rintro e w2 ⟨v2, rfl, ho2, hb2'⟩; obtain ⟨A2, c2, rfl, hc2, hr2⟩ := own_reads0 ho2; have HG2 := Lib.hid ((hb2'.block g (heap_lt0 HG1.out)).trans HG1.out); have hb2 := hb1.trans (hb2'.mono hb1.size); clear hb2'))
    | (go_at_call 18; go_loud (refine (HA _).mono ?_; rintro e w3 ⟨rfl, hb3'⟩; have HG3 := Lib.hid ((hb3'.block g (heap_lt0 HG2.out)).trans HG2.out); have hb3 := hb2.trans (hb3'.mono hb2.size); have hr3 := hr2.below hb3'; have ho3 := own_below0 ho2 hb3'; clear hb3'))
    | (go_at_call 55; go_loud (refine (HS g _ (by have h9 := reads_blk HG3.out; rw [pcells_append] at h9; exact h9.front)).mono ?_; rintro e w4 ⟨A4, c4, rfl, hc4, hr4, hb4'⟩; have HG4 := Lib.hid ((hb4'.block g (heap_lt0 HG3.out)).trans HG3.out); have hb4 := hb3.trans (hb4'.mono hb3.size); have hr24 := hr3.below hb4'; have ho4 := own_below0 ho3 hb4'; clear hb4'))
    | (go_at_call 54; go_loud (refine (HP _ _ _ _ _ hr4 hr24 hc4 hc2).mono ?_; rintro e w5 ⟨rfl, hb5'⟩; have HG5 := Lib.hid ((hb5'.block g (heap_lt0 HG4.out)).trans HG4.out); have hb5 := hb4.trans (hb5'.mono hb4.size); have ho5 := own_below0 ho4 hb5'; clear hb5'))
    | (go_at_call 56; go_loud (refine (HK g _ (hr.below hb5) HG5.out).mono ?_; rintro e w6 ⟨rfl, hb6'⟩; have hb6 := hb5.trans (hb6'.mono hb5.size); have ho6 := own_below0 ho5 hb6'; clear hb6')))
  have hN := newF w6
  have hrw := own_reads0 ho6
  obtain ⟨A', c', hv', _, hr6⟩ := hrw
  simp only [Value.slice.injEq, true_and] at hv'
  obtain ⟨rfl, rfl⟩ := hv'
  have hlt6 : ∀ a, A2 = some a → a.block < w6.heap.size := fun a ha => by
    subst ha
    exact (own_lt0 ho6 a.block (by simp [Value.ownBlock])).2
  clear ho2 ho3 ho4 ho5 ho6 hr2 hr3 hr24 hr4 HG1 HG2 HG3 HG4 HG5 hb1 hb2 hb3 hb4 hb5 HO HW HS HP HK HA h60' hc4 hg
  have hl100 : l.length ≤ 100 := by omega
  clear h60
  go_upto_region 8 with (go_at_call 17; go_loud (refine hN.mono ?_; rintro e w7 ⟨rfl, hq7, hb7, hs7⟩; clear hN))
  have hq0 : w.heap.size ≤ w6.heap.size := hb6.size
  have hSep : Hid (Sep w7 w6.heap.size (.slice none 0 0) A2) := fun a ha => by
    have := hlt6 a ha
    exact ⟨by omega, by omega, by simp [Value.ownBlock]⟩
  have HQ := Lib.hid hq7
  have HR := Lib.hid (hr6.below hb7)
  have hb := hb6.trans (hb7.mono hq0)
  clear hq7 hs7 hb7 hr6 hlt6 hb6
  generalize w6.heap.size = q at *
  go_wp2_with fail
  go_loopw [6] (fun i wx => ∃ (j : Nat) (v : Value), j ≤ l.length ∧ i = .int .i64 j ∧ Hid (QF wx q (q + 1) v (sortL (l.take j))) ∧ Hid (Reads wx A2 (pcells (sortL l))) ∧ Hid (Sep wx q v A2) ∧ Below w.heap.size w wx) (fun i _ => l.length - (intOf i).toNat)
  case atStart => exact ⟨0, _, Nat.zero_le _, rfl, HQ, HR, hSep, hb⟩
  case round =>
    clear HQ HR hSep hb
    obtain ⟨j, v, hj, rfl, HQ, HR, HSp, hb⟩ := hrel
    by_cases hjl : j < l.length
    · obtain ⟨e, he⟩ : ∃ e, l[j]? = some e := ⟨l[j], by simp⟩
      obtain ⟨b, o, rfl, hbl, e1, e2⟩ := (hr.below hb).pair' j e he
      have HS := Lib.hid (sortL_one l j e he)
      have jI : (j : Int) < (l.length : Int) := by omega
      have hl1 : (sortL (l.take j)).length < 2000000 := by rw [sortL_length, List.length_take]; omega
      clear he
      go_wp2_with (go_at_call 19; go_loud (refine (pushF _ _ _ _ e.1 e.2 _ HQ.out (by have := HQ.out.lt.1; omega) hl1).mono ?_; rintro e' w3 ⟨rfl, v3, hq3, ht3, hs3⟩))
      go_roundw
      case rel => exact ⟨j + 1, v3, by omega, by go_num, by rw [HS.out]; exact hq3, HR.out.touch ht3 HSp.out, HSp.out.push ht3.size hs3, hb.trans (ht3.toBelow hq0 (fun g hg => by have := HQ.out.lt.2.2 g hg; omega) hb.size)⟩
      case measure => simp [intOf]; omega
    · obtain rfl : j = l.length := by omega
      rw [List.take_length] at HQ
      clear hr hj hjl
      have hsl' := hsl.out
      generalize sortL l = F at *
      clear hsl
      have HSL := Lib.hid hsl'
      clear hsl'
      go_upto_region 13 with fail
      go_loopw [7] (fun i wx => ∃ (n : Nat) (v : Value), n ≤ l.length ∧ i = .int .i64 n ∧ Hid (QF wx q (q + 1) v (F.drop n)) ∧ Hid (Reads wx A2 (pcells F)) ∧ Hid (Sep wx q v A2) ∧ Below w.heap.size w wx) (fun i _ => l.length - (intOf i).toNat)
      case atStart => exact ⟨0, v, Nat.zero_le _, rfl, HQ, HR, HSp, hb⟩
      case round =>
        clear HQ HR HSp hb v
        obtain ⟨n, v, hn, rfl, HQ, HR, HSp, hb⟩ := hrel
        by_cases hnF : n < l.length
        · have hnF' : n < F.length := by rw [HSL.out]; exact hnF
          obtain ⟨x, hx⟩ : ∃ x, F[n]? = some x := ⟨F[n], by simp⟩
          have hd : F.drop n = x :: F.drop (n + 1) := by
            rw [List.drop_eq_getElem_cons hnF', (List.getElem?_eq_some_iff.1 hx).2]
          have HX := Lib.hid hx
          have HQ1 : Hid (QF wr q (q + 1) v (x :: F.drop (n + 1))) := hd ▸ HQ.out
          have nI : (n : Int) < (l.length : Int) := by omega
          have HPo := fun W hQ => popF q (q + 1) v x (F.drop (n + 1)) W hQ (by simp; have := HSL.out; omega)
          clear hx hd HQ hnF'
          go_upto_region 16 with (go_at_call 21; go_loud (refine (HPo _ HQ1.out).mono ?_; rintro e' w6 ⟨rfl, v6, hq6, ht6, hv6⟩))
          have hb6 := hb.trans (ht6.toBelow hq0 (fun g hg => by have := HQ1.out.lt.2.2 g hg; omega) hb.size)
          have hbn : Below w6.heap.size w6 (w6.alloc (Obj.cells #[Value.int .i64 x.1, Value.int .i64 x.2] 39)) := (Below.refl _ w6).alloc (Nat.le_refl _) _
          obtain ⟨y0, y1, _, _, _⟩ := blk2 (heap_alloc_new w6 (Obj.cells #[Value.int .i64 x.1, Value.int .i64 x.2] 39))
          generalize hW : w6.alloc (Obj.cells #[Value.int .i64 x.1, Value.int .i64 x.2] 39) = W7 at *
          have hr7 := (HR.out.touch ht6 HSp.out).below hbn
          have HS7 := Lib.hid ((HSp.out.push ht6.size (SameOr.same hv6)).below hbn.size)
          have HQ7 := Lib.hid (hq6.below hbn)
          have hb7 := hb6.trans (hbn.mono hb6.size)
          obtain ⟨b, o, rfl, hbl, e1, e2⟩ := hr7.pair' n x HX.out
          have HR7 := Lib.hid hr7
          clear hW hr7 ht6 hq6 hv6 HPo hb6 HR HSp HQ1 hb
          go_quiet (fail)
          go_wp2_with fail
          go_roundw
          have hbd : Below W7.heap.size W7 (W7.drewN nq) := by (repeat (first | with_reducible exact Below.refl _ _ | with_reducible assumption | with_reducible refine below_drewN0 ?_ _ | with_reducible refine Below.drew ?_ | with_reducible refine Below.alloc ?_ ?_ _ | with_reducible refine Below.setCell ?_ ?_ _ | go_size | exact Below.size (by assumption)))
          case rel => exact ⟨n + 1, v6, by omega, by go_num, HQ7.out.below hbd, HR7.out.below hbd, HS7.out.below hbd.size, hb7.trans (hbd.mono hb7.size)⟩
          case measure => simp [intOf]; omega
        · obtain rfl : n = l.length := by omega
          have HLn := fun W hQ => lenF q (q + 1) v [] W hQ
          have HPn := fun W hQ => popNil q (q + 1) v W hQ
          have hd0 : F.drop l.length = [] := by rw [← HSL.out]; simp
          rw [hd0] at HQ
          clear hd0 HR HSp
          go_wp2_with (first
            | (go_at_call 21; go_loud (refine (HPn _ HQ.out).mono ?_; rintro e' w4 ⟨rfl, hb4⟩))
            | (go_at_call 24; go_loud (refine (HLn _ (HQ.out.below ?_)).mono ?_; (repeat (first | with_reducible exact Below.refl _ _ | with_reducible assumption | with_reducible refine below_drewN0 ?_ _ | with_reducible refine Below.drew ?_ | with_reducible refine Below.alloc ?_ ?_ _ | with_reducible refine Below.setCell ?_ ?_ _ | go_size | exact Below.size (by assumption))); rintro e' w5 ⟨rfl, rfl⟩)))
          go_ret
          have hb5 := hb.trans (hb4.mono hb.size)
          exact ⟨rfl, hb5.alloc hb5.size _⟩
end Go.Proofs.Ytglhdoibglafbaa
