/- The walk of the law QueueSorts, over a contract of queue.Sorted. -/
import Derived.Test.YtglhdoibglafbaaU21
import Derived.Test.YtglhdoibglafbaaU20
import Derived.Test.YtglhdoibglafbaaU04
import Derived.Shelf.SlSortCmp.WholeK
import Derived.Test.YtglhdoibglafbaaU01
import Derived.Test.YtglhdoibglafbaaU13
import Derived.Test.YtglhdoibglafbaaU02
namespace Go.Proofs.Ytglhdoibglafbaa
open Go Go.RowKit
set_option maxRecDepth 100000
set_option linter.unusedVariables false
set_option linter.unusedSimpArgs false

def SortedPost (l : List PE) (w : World) (e : Ending) (w' : World) : Prop :=
  ∃ A c, e = .returned (.slice A l.length c) ∧ l.length ≤ c ∧ Reads w' A (pcells (sortL l)) ∧ Below w.heap.size w w'

set_option maxHeartbeats 8000000 in
theorem sorts_of (HSD : ∀ (l : List PE) (A : Option Addr) (c : Nat) (w : World), Reads w A (pcells l) → l.length ≤ c → l.length ≤ 90000 → Calls Try.prog 55 #[.slice A l.length c] w (SortedPost l w))
    (l : List PE) (A : Option Addr) (c : Nat) (w : World) (hr : Reads w A (pcells l)) (hc : l.length ≤ c) (hm : l.length ≤ 4611686018427387903) :
    Calls Try.prog 10 #[.slice A l.length c] w fun e w' => e = .returned (.bool true) ∧ Below w.heap.size w w' := by
  have HA := fun W => awake07 W
  by_cases h60 : 100 < l.length
  · have h60' : decide ((100 : Int) < (l.length : Int)) = true := decide_eq_true (by omega)
    go_enter Try.func10, Try.ntmps10
    go_wp2_with (go_at_call 18; go_loud (refine (HA _).mono ?_; rintro e w2 ⟨rfl, hb2⟩))
    go_ret
    exact ⟨rfl, hb2⟩
  have h60' : decide ((100 : Int) < (l.length : Int)) = false := decide_eq_false (by omega)
  have HO := fun W hR => ownN l 71 0 A c W hR hc (by omega)
  have HW := fun W hR => sortedQ l A c W hR hc (by omega)
  have HS := fun g W hR => HSD l (some ⟨g, 0, none⟩) (l.length + 3) W hR (by omega) (by omega)
  have HP := fun A1 A2 c1 c2 W h1 h2 hc1 hc2 => sameN_plain (sortL l) (sortL l) A1 A2 c1 c2 W h1 h2 hc1 hc2 (by rw [sortL_length]; omega) (by rw [sortL_length]; omega)
  simp only [sortL_length, decide_true] at HP
  have HK := fun g W hR hG => keptN l 71 0 g A c W hR hc (by omega) hG
  have hsl := Lib.hid (sortL_length l)
  clear HSD
  go_enter Try.func10, Try.ntmps10
  go_upto_region 7 with (first
    | (go_at_call 53; go_loud (refine (HO _ hr).mono ?_; rintro e w1 ⟨g, rfl, hg, hG, hb1⟩; have HG1 := Lib.hid hG; clear hG))
    | (go_at_call 20; go_loud (refine (HW _ (hr.below hb1)).mono ?_; rintro e w2 ⟨v2, rfl, ho2, hb2'⟩; obtain ⟨A2, c2, rfl, hc2, hr2⟩ := own_reads0 ho2; have HG2 := Lib.hid ((hb2'.block g (heap_lt0 HG1.out)).trans HG1.out); have hb2 := hb1.trans (hb2'.mono hb1.size); clear hb2'))
    | (go_at_call 18; go_loud (refine (HA _).mono ?_; rintro e w3 ⟨rfl, hb3'⟩; have HG3 := Lib.hid ((hb3'.block g (heap_lt0 HG2.out)).trans HG2.out); have hb3 := hb2.trans (hb3'.mono hb2.size); have hr3 := hr2.below hb3'; have ho3 := own_below0 ho2 hb3'; clear hb3'))
    | (go_at_call 55; go_loud (refine (HS g _ (by have h9 := reads_blk HG3.out; rw [pcells_append] at h9; exact h9.front)).mono ?_; rintro e w4 ⟨A4, c4, rfl, hc4, hr4, hb4'⟩; have HG4 := Lib.hid ((hb4'.block g (heap_lt0 HG3.out)).trans HG3.out); have hb4 := hb3.trans (hb4'.mono hb3.size); have hr24 := hr3.below hb4'; have ho4 := own_below0 ho3 hb4'; clear hb4'))
    | (go_at_call 54; go_loud (refine (HP _ _ _ _ _ hr4 hr24 hc4 hc2).mono ?_; rintro e w5 ⟨rfl, hb5'⟩; have HG5 := Lib.hid ((hb5'.block g (heap_lt0 HG4.out)).trans HG4.out); have hb5 := hb4.trans (hb5'.mono hb4.size); have ho5 := own_below0 ho4 hb5'; clear hb5'))
    | (go_at_call 56; go_loud (refine (HK g _ (hr.below hb5) HG5.out).mono ?_; rintro e w6 ⟨rfl, hb6'⟩; have hb6 := hb5.trans (hb6'.mono hb5.size); have ho6 := own_below0 ho5 hb6'; clear hb6')))
  have hN := newF w6
  have hrw := own_reads0 ho6
  obtain ⟨A', c', hv', _, hr6⟩ := hrw
  simp only [Value.slice.injEq, true_and] at hv'
  obtain ⟨rfl, rfl⟩ := hv'
  have hlt6 : ∀ a, A2 = some a → a.block < w6.heap.size := fun a ha => by
    subst ha
    exact (own_lt0 ho6 a.block (by simp [Value.ownBlock])).2
  clear ho2 ho3 ho4 ho5 ho6 hr2 hr3 hr24 hr4 HG1 HG2 HG3 HG4 HG5 hb1 hb2 hb3 hb4 hb5 HO HW HS HP HK HA h60' hc4 hg
  have hl100 : l.length ≤ 100 := by omega
  clear h60
  go_upto_region 8 with (go_at_call 17; go_loud (refine hN.mono ?_; rintro e w7 ⟨rfl, hq7, hb7, hs7⟩; clear hN))
  have hq0 : w.heap.size ≤ w6.heap.size := hb6.size
  have hSep : Hid (Sep w7 w6.heap.size (.slice none 0 0) A2) := fun a ha => by
    have := hlt6 a ha
    exact ⟨by omega, by omega, by simp [Value.ownBlock]⟩
  have HQ := Lib.hid hq7
  have HR := Lib.hid (hr6.below hb7)
  have hb := hb6.trans (hb7.mono hq0)
  clear hq7 hs7 hb7 hr6 hlt6 hb6
  generalize w6.heap.size = q at *
  go_wp2_with fail
  go_loopw [6] (fun i wx => ∃ (j : Nat) (v : Value), j ≤ l.length ∧ i = .int .i64 j ∧ Hid (QF wx q (q + 1) v (sortL (l.take j))) ∧ Hid (Reads wx A2 (pcells (sortL l))) ∧ Hid (Sep wx q v A2) ∧ Below w.heap.size w wx) (fun i _ => l.length - (intOf i).toNat)
  case atStart => exact ⟨0, _, Nat.zero_le _, rfl, HQ, HR, hSep, hb⟩
  case round =>
    clear HQ HR hSep hb
    obtain ⟨j, v, hj, rfl, HQ, HR, HSp, hb⟩ := hrel
    by_cases hjl : j < l.length
    · obtain ⟨e, he⟩ : ∃ e, l[j]? = some e := ⟨l[j], by simp⟩
      obtain ⟨b, o, rfl, hbl, e1, e2⟩ := (hr.below hb).pair' j e he
      have HS := Lib.hid (sortL_one l j e he)
      have jI : (j : Int) < (l.length : Int) := by omega
      have hl1 : (sortL (l.take j)).length < 2000000 := by rw [sortL_length, List.length_take]; omega
      clear he
      go_wp2_with (go_at_call 19; go_loud (refine (pushF _ _ _ _ e.1 e.2 _ HQ.out (by have := HQ.out.lt.1; omega) hl1).mono ?_; rintro e' w3 ⟨rfl, v3, hq3, ht3, hs3⟩))
      go_roundw
      case rel => exact ⟨j + 1, v3, by omega, by go_num, by rw [HS.out]; exact hq3, HR.out.touch ht3 HSp.out, HSp.out.push ht3.size hs3, hb.trans (ht3.toBelow hq0 (fun g hg => by have := HQ.out.lt.2.2 g hg; omega) hb.size)⟩
      case measure => simp [intOf]; omega
    · obtain rfl : j = l.length := by omega
      rw [List.take_length] at HQ
      clear hr hj hjl
      have hsl' := hsl.out
      generalize sortL l = F at *
      clear hsl
      have HSL := Lib.hid hsl'
      clear hsl'
      go_upto_region 13 with fail
      go_loopw [7] (fun i wx => ∃ (n : Nat) (v : Value), n ≤ l.length ∧ i = .int .i64 n ∧ Hid (QF wx q (q + 1) v (F.drop n)) ∧ Hid (Reads wx A2 (pcells F)) ∧ Hid (Sep wx q v A2) ∧ Below w.heap.size w wx) (fun i _ => l.length - (intOf i).toNat)
      case atStart => exact ⟨0, v, Nat.zero_le _, rfl, HQ, HR, HSp, hb⟩
      case round =>
        clear HQ HR HSp hb v
        obtain ⟨n, v, hn, rfl, HQ, HR, HSp, hb⟩ := hrel
        by_cases hnF : n < l.length
        · have hnF' : n < F.length := by rw [HSL.out]; exact hnF
          obtain ⟨x, hx⟩ : ∃ x, F[n]? = some x := ⟨F[n], by simp⟩
          have hd : F.drop n = x :: F.drop (n + 1) := by
            rw [List.drop_eq_getElem_cons hnF', (List.getElem?_eq_some_iff.1 hx).2]
          have HX := Lib.hid hx
          have HQ1 : Hid (QF wr q (q + 1) v (x :: F.drop (n + 1))) := hd ▸ HQ.out
          have nI : (n : Int) < (l.length : Int) := by omega
          have HPo := fun W hQ => popF q (q + 1) v x (F.drop (n + 1)) W hQ (by simp; have := HSL.out; omega)
          clear hx hd HQ hnF'
          go_upto_region 16 with (go_at_call 21; go_loud (refine (HPo _ HQ1.out).mono ?_; rintro e' w6 ⟨rfl, v6, hq6, ht6, hv6⟩))
          have hb6 := hb.trans (ht6.toBelow hq0 (fun g hg => by have := HQ1.out.lt.2.2 g hg; omega) hb.size)
          have hbn : Below w6.heap.size w6 (w6.alloc (Obj.cells #[Value.int .i64 x.1, Value.int .i64 x.2] 39)) := (Below.refl _ w6).alloc (Nat.le_refl _) _
          obtain ⟨y0, y1, _, _, _⟩ := blk2 (heap_alloc_new w6 (Obj.cells #[Value.int .i64 x.1, Value.int .i64 x.2] 39))
          generalize hW : w6.alloc (Obj.cells #[Value.int .i64 x.1, Value.int .i64 x.2] 39) = W7 at *
          have hr7 := (HR.out.touch ht6 HSp.out).below hbn
          have HS7 := Lib.hid ((HSp.out.push ht6.size (SameOr.same hv6)).below hbn.size)
          have HQ7 := Lib.hid (hq6.below hbn)
          have hb7 := hb6.trans (hbn.mono hb6.size)
          obtain ⟨b, o, rfl, hbl, e1, e2⟩ := hr7.pair' n x HX.out
          have HR7 := Lib.hid hr7
          clear hW hr7 ht6 hq6 hv6 HPo hb6 HR HSp HQ1 hb
          go_quiet (fail)
          go_wp2_with fail
          go_roundw
          have hbd : Below W7.heap.size W7 (W7.drewN nq) := by (repeat (first | with_reducible exact Below.refl _ _ | with_reducible assumption | with_reducible refine below_drewN0 ?_ _ | with_reducible refine Below.drew ?_ | with_reducible refine Below.alloc ?_ ?_ _ | with_reducible refine Below.setCell ?_ ?_ _ | go_size | exact Below.size (by assumption)))
          case rel => exact ⟨n + 1, v6, by omega, by go_num, HQ7.out.below hbd, HR7.out.below hbd, HS7.out.below hbd.size, hb7.trans (hbd.mono hb7.size)⟩
          case measure => simp [intOf]; omega
        · obtain rfl : n = l.length := by omega
          have HLn := fun W hQ => lenF q (q + 1) v [] W hQ
          have HPn := fun W hQ => popNil q (q + 1) v W hQ
          have hd0 : F.drop l.length = [] := by rw [← HSL.out]; simp
          rw [hd0] at HQ
          clear hd0 HR HSp
          go_wp2_with (first
            | (go_at_call 21; go_loud (refine (HPn _ HQ.out).mono ?_; rintro e' w4 ⟨rfl, hb4⟩))
            | (go_at_call 24; go_loud (refine (HLn _ (HQ.out.below ?_)).mono ?_; (repeat (first | with_reducible exact Below.refl _ _ | with_reducible assumption | with_reducible refine below_drewN0 ?_ _ | with_reducible refine Below.drew ?_ | with_reducible refine Below.alloc ?_ ?_ _ | with_reducible refine Below.setCell ?_ ?_ _ | go_size | exact Below.size (by assumption))); rintro e' w5 ⟨rfl, rfl⟩)))
          go_ret
          have hb5 := hb.trans (hb4.mono hb.size)
          exact ⟨rfl, hb5.alloc hb5.size _⟩
end Go.Proofs.Ytglhdoibglafbaa

/- Walks of slices.SortFunc at no entry. -/
namespace Go.Proofs.Ytglhdoibglafbaa
open Go Go.RowKit
set_option maxRecDepth 100000
set_option linter.unusedVariables false
set_option linter.unusedSimpArgs false

theorem len64_0 (w : World) : Calls Try.prog 116 #[.int .u64 0] w fun e w' => e = .returned (.int .i64 0) ∧ w = w' := by
  go_enter Try.func116, Try.ntmps116
  go_wp2
  go_ret
  exact ⟨by kernel_rfl, rfl⟩

theorem len_0 (w : World) : Calls Try.prog 95 #[.int .u64 0] w fun e w' => e = .returned (.int .i64 0) ∧ w = w' := by
  go_enter Try.func95, Try.ntmps95
  go_wp2_with (go_at_call 116; refine (len64_0 _).mono ?_; rintro e w1 ⟨rfl, rfl⟩)
  go_ret
  simp

theorem ins_0N (A : Option Addr) (c : Nat) (fv : Value) (w : World) : Calls Try.prog 119 #[.slice A 0 c, .int .i64 0, .int .i64 0, fv] w fun e w' => e = .returned (.tuple #[]) ∧ w = w' := by
  go_enter Try.func119, Try.ntmps119
  go_wp2
  go_rounds 1
  go_end0
  simp

theorem pdq_0N (A : Option Addr) (c : Nat) (fv : Value) (l : Int) (w : World) : Calls Try.prog 102 #[.slice A 0 c, .int .i64 0, .int .i64 0, .int .i64 l, fv] w fun e w' => e = .returned (.tuple #[]) ∧ w = w' := by
  go_enter Try.func102, Try.ntmps102
  go_wp2
  refine wp_loop_rounds 1 ?_
  rw [rounds_succ]
  go_wp2_with (go_at_call 119; refine (ins_0N A c fv _).mono ?_; rintro e w1 ⟨rfl, rfl⟩)
  (try simp only [Exit.inBlock, Exit.then])
  refine bodyPost_ret (results_none rfl _ _ _) rfl ?_
  exact ⟨rfl, rfl⟩

theorem sort_0N (A : Option Addr) (c : Nat) (fv : Value) (w : World) : Calls Try.prog 84 #[.slice A 0 c, fv] w fun e w' => e = .returned (.tuple #[]) ∧ w = w' := by
  go_enter Try.func84, Try.ntmps84
  go_wp2_with (first | (go_at_call 95; refine (len_0 _).mono ?_; rintro e w1 ⟨rfl, rfl⟩) | (go_at_call 102; refine (pdq_0N A c fv _ _).mono ?_; rintro e w1 ⟨rfl, rfl⟩))
  go_end0
  simp

end Go.Proofs.Ytglhdoibglafbaa

/- Walk of queue.Sorted. -/
namespace Go.Proofs.Ytglhdoibglafbaa
open Go Go.RowKit
set_option maxRecDepth 100000
set_option linter.unusedVariables false
set_option linter.unusedSimpArgs false

theorem sort_any (l : List PE) (g c : Nat) (cur : List Value) (T : TypeId) (w : World) (hg : w.heap[g]? = some (.cells cur.toArray T (0, 0))) (ht : cur.take (l.length * 2) = pcells l) (hm : l.length ≤ 90000) :
    Calls Try.prog 84 #[.slice (some ⟨g, 0, none⟩) l.length c, .func (.func 85) #[] #[]] w fun e w' => e = .returned (.tuple #[]) ∧ Reads w' (some ⟨g, 0, none⟩) (pcells (sortL l)) ∧ ∀ B, B ≤ g → B ≤ w.heap.size → Below B w w' := by
  have hH := holds_of hg ht
  have hgl := heap_lt0 hg
  have eg : ∀ args w, (callFunc 85 args).run Try.prog w = .ok (.enter 85 args) w := enters_of Try.func85 (by kernel_rfl) rfl
  have aE : ∀ w, (isAgg 39).run Try.prog w = .ok true w := fun w => by kernel_rfl
  have zE : ∀ w, (Go.sizeOf 39).run Try.prog w = .ok 2 w := fun w => by kernel_rfl
  have h := AnyQ.slices_SortFunc sortN 2 aE zE encP (fun _ => rfl) (fun x v hv => by simp [encP] at hv; rcases hv with rfl | rfl <;> rfl) (fun x y : PE => cmpE x.1 x.2 y.1 y.2) swoE 85 #[] g 0 c l.toArray w eg (fun _ _ _ _ x y => compareG x.1 x.2 y.1 y.2 _) hH hgl (by simp; omega)
  have hsz : l.toArray.size = l.length := by simp
  change Calls Try.prog 84 #[.slice (some ⟨g, 0, none⟩) l.toArray.size c, .func (.func 85) #[] #[]] w _ at h
  rw [hsz] at h
  refine h.mono fun e w' => ?_
  rintro ⟨he, d', n, os, hp, hs, rfl⟩
  refine ⟨he, ?_, fun B h1 h2 => below_sort h1 h2⟩
  have hd := sorted_is l d' (by rw [hsz]; exact hp) (by rw [hsz]; exact hs)
  rw [← hd]
  have hsd : d'.size = l.toArray.size := hp.1
  exact reads_holds (holdsK_sortWorldK_c encP 2 w g 0 l.toArray d' n os hH hgl hsd) (Nat.lt_of_lt_of_le hgl (size_sortWorldK_c encP 2 w g 0 n d' os))

set_option maxHeartbeats 2000000 in
theorem sortedN (l : List PE) (A : Option Addr) (c : Nat) (w : World) (hr : Reads w A (pcells l)) (hc : l.length ≤ c) (hm : l.length ≤ 90000) :
    Calls Try.prog 55 #[.slice A l.length c] w (SortedPost l w) := by
  have HC := cloneN l A c w hr hc (by omega)
  by_cases h0 : l = []
  · subst h0
    have HZ := fun A c fv W => sort_0N A c fv W
    clear hr
    simp only [List.length_nil] at *
    go_enter Try.func55, Try.ntmps55
    go_wp2_with (first
      | (go_at_call 83; go_loud (refine HC.mono ?_; rintro e w1 ⟨v1, rfl, ho1, hb1⟩; obtain ⟨A1, c1, rfl, hc1, hr1⟩ := own_reads0 ho1))
      | (go_at_call 84; go_loud (refine (HZ _ _ _ _).mono ?_; rintro e w2 ⟨rfl, rfl⟩)))
    go_ret
    exact ⟨_, _, rfl, hc1, hr1, hb1⟩
  · have hl0 : 0 < l.length := List.length_pos_iff.2 h0
    have HS := fun g c cur T W hg ht => sort_any l g c cur T W hg ht hm
    clear hr
    go_enter Try.func55, Try.ntmps55
    go_wp2_with (first
      | (go_at_call 83; go_loud (refine HC.mono ?_; rintro e w1 ⟨v1, rfl, ho1, hb1⟩; obtain ⟨g, c1, cur, rfl, hBg, hgl, hh, hnc, _, _, htk⟩ := own_open ho1 hl0; have HH := Lib.hid hh; have HT := Lib.hid htk; clear hh htk ho1))
      | (go_at_call 84; go_loud (refine (HS g c1 cur _ _ HH.out HT.out).mono ?_; rintro e w2 ⟨rfl, hr2, hb2⟩)))
    go_ret
    exact ⟨_, _, rfl, hnc, hr2, hb1.trans (hb2 _ hBg hb1.size)⟩

theorem sorts_any (l : List PE) (A : Option Addr) (c : Nat) (w : World) (hr : Reads w A (pcells l)) (hc : l.length ≤ c) (hm : l.length ≤ 4611686018427387903) :
    Calls Try.prog 10 #[.slice A l.length c] w fun e w' => e = .returned (.bool true) ∧ Below w.heap.size w w' := sorts_of sortedN l A c w hr hc hm
end Go.Proofs.Ytglhdoibglafbaa

/- Arguments opened: a row of entries. -/
namespace Go.Proofs.Ytglhdoibglafbaa
open Go Go.RowKit Go.WideShapes Go.ChangeShapes
set_option maxRecDepth 100000
set_option linter.unusedVariables false
set_option linter.unusedSimpArgs false
section
variable {H : Type} {enc : TypeId × Value → H} {W : World} {base : Nat} {v : Value} {d : DataW H} {p : List MemPlace}

theorem cells_entry2 : Try.prog.cellsOf 39 = 2 := by kernel_rfl
theorem bytes_entry : Try.prog.bytesOf 39 = 16 := by kernel_rfl

theorem op_epairs {fuel : Nat} {u : Value} {x : DataW H × List MemPlace} (hf : DataW.trod enc Try.prog W 0 (fun _ => true) true fuel 34 [u] = some x) (hsz : ∀ y ∈ x.1.weights Try.prog 34, y ≤ reachBytes) :
    ∃ (A : Option Addr) (c : Nat) (es : List (Int × Int)), u = .slice A es.length c ∧ es.length ≤ c ∧ Reads W A (pcells es) ∧ c * 16 ≤ 140737488351232 ∧ FitP es := by
  rcases Deep.open_slice_pairs Try.underlying34 Try.underlying39 cells_entry2 rfl rfl cells_int1 cells_int1 hf with ⟨hcs, hx⟩ | ⟨a, len, cap, m, n, V0, V1, D0, D1, P0, P1, hcs, _, hl, hm, hmm, hx, hcell⟩
  · simp at hcs
    subst hcs
    exact ⟨none, 0, [], rfl, Nat.le_refl _, .inl rfl, by omega, by intro x hx; simp at hx⟩
  · simp at hcs
    subst hcs hx
    simp only [if_true] at hmm
    subst hmm
    have hs := hsz (m * 16) (by simp [DataW.weights, Try.underlying34, bytes_entry]; left; omega)
    rw [reach_num] at hs
    have each : ∀ i, i < m → ∃ e : Int × Int, V0 i = .int .i64 e.1 ∧ V1 i = .int .i64 e.2 ∧ (Lit.int .i64 e.1).wf = true ∧ (Lit.int .i64 e.2).wf = true := by
      intro i hi
      obtain ⟨_, _, h0, h1⟩ := hcell i hi
      obtain ⟨x0, e0, _, w0⟩ := DataW.trod_int Try.underlying3 h0
      obtain ⟨x1, e1, _, w1⟩ := DataW.trod_int Try.underlying3 h1
      simp at e0 e1
      exact ⟨(x0, x1), e0, e1, w0, w1⟩
    let F : Nat → Int × Int := fun i => (int2 (V0 i), int2 (V1 i))
    have hF : ∀ i, i < m → V0 i = .int .i64 (F i).1 ∧ V1 i = .int .i64 (F i).2 ∧ (Lit.int .i64 (F i).1).wf = true ∧ (Lit.int .i64 (F i).2).wf = true := by
      intro i hi
      obtain ⟨⟨x, y⟩, h0, h1, h2, h3⟩ := each i hi
      simp only [F, h0, h1, int2]
      exact ⟨trivial, trivial, h2, h3⟩
    refine ⟨some a, m, (List.range len).map F, by simp, by simpa using hl, reads_of fun i u hu => ?_, hs, ?_⟩
    · have hi : i < 2 * len := by have := (List.getElem?_eq_some_iff.1 hu).1; rw [pcells_length] at this; simpa using this
      have hj : i / 2 < len := by omega
      have hp := pcells_get ((List.range len).map F) (i / 2) (F (i / 2)) (by simp [hj])
      obtain ⟨c0, c1, _, _⟩ := hcell (i / 2) (by omega)
      obtain ⟨g0, g1, _, _⟩ := hF (i / 2) (by omega)
      rcases Nat.mod_two_eq_zero_or_one i with hi2 | hi2
      · have e : i = 2 * (i / 2) := by omega
        rw [← e] at hp
        rw [hp.1] at hu
        cases hu
        rw [Nat.mul_comm, ← e] at c0
        rw [c0, g0]
      · have e : i = 2 * (i / 2) + 1 := by omega
        rw [← e] at hp
        rw [hp.2] at hu
        cases hu
        rw [Nat.mul_comm, ← e] at c1
        rw [c1, g1]
    · intro e he
      obtain ⟨i, hi, rfl⟩ := List.mem_map.1 he
      obtain ⟨_, _, w0, w1⟩ := hF i (by have := List.mem_range.1 hi; omega)
      exact ⟨wf_bd w0, wf_bd w1⟩

theorem op_entries (hok : Value.okWide Try.prog W .any base 34 v) (h : DataW.Trod enc Try.prog W 0 (fun _ => true) true 34 v d p) (hsz : ∀ x ∈ d.weights Try.prog 34, x ≤ reachBytes) :
    ∃ (A : Option Addr) (c : Nat) (es : List (Int × Int)), v = .slice A es.length c ∧ es.length ≤ c ∧ Reads W A (pcells es) ∧ c * 16 ≤ 140737488351232 ∧ FitP es := by
  obtain ⟨a0, len, cap, rfl⟩ := okWide_slice Try.underlying34 hok
  obtain ⟨fuel, hf⟩ := h
  exact op_epairs (u := .slice a0 len cap) hf hsz

end
end Go.Proofs.Ytglhdoibglafbaa

/- Degrees: tutte.Right and what it calls. -/
namespace Go.Proofs.Ytglhdoibglafbaa
open Go Go.RowKit
set_option maxRecDepth 100000
set_option linter.unusedVariables false
set_option linter.unusedSimpArgs false

def badDeg (x : Int) : Bool := decide (x < 0) || decide (4096 < x)
theorem bad_any (x : Int) (w : World) :
    Calls Try.prog 106 #[.int .i64 x] w fun e w' => e = .returned (.bool (badDeg x)) ∧ w = w' := by
  unfold badDeg
  by_cases h : x < 0
  · go_enter Try.func106, Try.ntmps106
    go_wp2
    go_ret
    simp [h]
  · go_enter Try.func106, Try.ntmps106
    go_wp2
    go_ret
    simp; omega

def idxB (p : Int → Bool) (l : List Int) : Int := match l.findIdx? p with | some i => i | none => -1
theorem idxB_no (p : Int → Bool) (l : List Int) (h : ∀ (j : Nat) x, l[j]? = some x → p x = false) : idxB p l = -1 := by
  unfold idxB
  rw [List.findIdx?_eq_none_iff.2 (fun x hx => by
    obtain ⟨j, hj, rfl⟩ := List.getElem_of_mem hx
    exact h j _ (by simp [hj]))]
theorem idxB_yes (p : Int → Bool) (l : List Int) (k : Nat) (x : Int) (hk : l[k]? = some x) (hp : p x = true) (h : ∀ (j : Nat) x, j < k → l[j]? = some x → p x = false) : idxB p l = k := by
  unfold idxB
  obtain ⟨hkl, hke⟩ := List.getElem?_eq_some_iff.1 hk
  have : l.findIdx? p = some k := by
    rw [List.findIdx?_eq_some_iff_getElem]
    refine ⟨hkl, by rw [hke]; exact hp, fun j hj => ?_⟩
    have := h j (l[j]'(by omega)) hj (by simp)
    simp [this]
  rw [this]

theorem idxf_any (l : List Int) (A : Option Addr) (c : Nat) (w : World) (hr : Reads w A (icells l)) (hc : l.length ≤ c) (hm : l.length ≤ 4611686018427387903) :
    Calls Try.prog 128 #[.slice A l.length c, .func (Fn.func 106) #[] #[]] w fun e w' => e = .returned (.int .i64 (idxB badDeg l)) ∧ w = w' := by
  go_enter Try.func128, Try.ntmps128
  go_wp2_with fail
  go_loop [8] (fun i => ∃ k : Nat, k ≤ l.length ∧ i = .int .i64 k ∧ Hid (∀ (j : Nat) x, j < k → l[j]? = some x → badDeg x = false)) (fun i => l.length - (intOf i).toNat)
  case atStart => exact ⟨0, Nat.zero_le _, rfl, fun j x hj => by omega⟩
  case round =>
    obtain ⟨k, hk, rfl, hok⟩ := hrel
    by_cases hlt : k < l.length
    · obtain ⟨x, hx⟩ : ∃ x, l[k]? = some x := ⟨l[k], by simp [hlt]⟩
      obtain ⟨b, o, rfl, hbl, e1⟩ := hr.int k x hx
      have HX := Lib.hid hx
      clear hx
      have HB := fun W => bad_any x W
      generalize hbx : badDeg x = bx at HB
      have HBX := Lib.hid hbx
      clear hbx
      cases bx with
      | true =>
        go_wp2_with (go_at_call 106; refine (HB _).mono ?_; rintro e w1 ⟨rfl, rfl⟩)
        go_ret
        exact ⟨by rw [idxB_yes badDeg l k x HX.out HBX.out hok.out]; rfl, rfl⟩
      | false =>
        go_wp2_with (go_at_call 106; refine (HB _).mono ?_; rintro e w1 ⟨rfl, rfl⟩)
        go_round
        case rel => exact ⟨k + 1, by omega, by go_num, fun j y hj hy => by
                            by_cases e : j = k
                            · subst e; rw [HX.out] at hy; injection hy with hy; subst hy; exact HBX.out
                            · exact hok.out j y (by omega) hy⟩
        case measure => simp [intOf]; omega
    · go_wp2_with fail
      go_ret
      exact ⟨by rw [idxB_no badDeg l (fun j x hx => hok.out j x (by have := (List.getElem?_eq_some_iff.1 hx).1; omega) hx)]; rfl, rfl⟩

theorem contf_any (l : List Int) (A : Option Addr) (c : Nat) (w : World) (hr : Reads w A (icells l)) (hc : l.length ≤ c) (hm : l.length ≤ 4611686018427387903) :
    Calls Try.prog 105 #[.slice A l.length c, .func (Fn.func 106) #[] #[]] w fun e w' => e = .returned (.bool (decide (0 ≤ idxB badDeg l))) ∧ w = w' := by
  have HI := fun W hR => idxf_any l A c W hR hc hm
  generalize idxB badDeg l = r at HI ⊢
  go_enter Try.func105, Try.ntmps105
  go_wp2_with (go_at_call 128; refine (HI _ hr).mono ?_; rintro e w1 ⟨rfl, rfl⟩)
  go_ret
  exact ⟨rfl, rfl⟩

/-- Why there is nothing of a graph and degrees; 0: there is. -/
def degErr (n : Int) (es : List (Int × Int)) (f : List Int) : Int :=
  if rightB n es = false then 3 else if (f.length : Int) ≠ n then 12 else if 0 ≤ idxB badDeg f then 12 else 0

set_option maxHeartbeats 1000000 in
theorem degRight (n : Int) (es : List (Int × Int)) (f : List Int) (A Af : Option Addr) (c cf : Nat) (w : World) (hr : Reads w A (pcells es)) (hc : es.length ≤ c) (hm : es.length ≤ 4611686018427387903)
    (hrf : Reads w Af (icells f)) (hcf : f.length ≤ cf) (hmf : f.length ≤ 4611686018427387903) :
    Calls Try.prog 91 #[.agg #[.int .i64 n, .slice A es.length c], .slice Af f.length cf] w fun e w' => e = .returned (.int .i64 (degErr n es f)) ∧ Below w.heap.size w w' := by
  have HR := fun W hR => right_any n es A c W hR hc hm
  have HC := fun W hR => contf_any f Af cf W hR hcf hmf
  unfold degErr
  generalize idxB badDeg f = ib at HC ⊢
  generalize rightB n es = rb at HR ⊢
  cases rb with
  | false =>
    simp only [if_true]
    go_enter Try.func91, Try.ntmps91
    go_wp2_with (go_at_call 31; refine (HR _ (hr.below ?_)).mono ?_; (repeat (first | with_reducible exact Below.refl _ _ | with_reducible assumption | with_reducible refine below_drewN0 ?_ _ | with_reducible refine Below.drew ?_ | with_reducible refine Below.alloc ?_ ?_ _ | with_reducible refine Below.setCell ?_ ?_ _ | go_size | exact Below.size (by assumption))); rintro e w1 ⟨rfl, hb1⟩)
    go_ret
    exact ⟨rfl, Below.trans (by (repeat (first | with_reducible exact Below.refl _ _ | with_reducible assumption | with_reducible refine below_drewN0 ?_ _ | with_reducible refine Below.drew ?_ | with_reducible refine Below.alloc ?_ ?_ _ | with_reducible refine Below.setCell ?_ ?_ _ | go_size | exact Below.size (by assumption)))) (hb1.mono (by simp))⟩
  | true =>
  rw [if_neg (by simp)]
  by_cases hf : (f.length : Int) = n
  · have hf' : ((f.length : Int) != n) = false := by simpa using hf
    rw [if_neg (by simpa using hf)]
    clear hf
    by_cases hi : 0 ≤ ib
    · rw [if_pos hi]
      go_enter Try.func91, Try.ntmps91
      go_wp2_with (first | (go_at_call 31; refine (HR _ (hr.below ?_)).mono ?_; (repeat (first | with_reducible exact Below.refl _ _ | with_reducible assumption | with_reducible refine below_drewN0 ?_ _ | with_reducible refine Below.drew ?_ | with_reducible refine Below.alloc ?_ ?_ _ | with_reducible refine Below.setCell ?_ ?_ _ | go_size | exact Below.size (by assumption))); rintro e w1 ⟨rfl, hb1⟩; have hbw : Below w.heap.size w w1 := Below.trans (by (repeat (first | with_reducible exact Below.refl _ _ | with_reducible assumption | with_reducible refine below_drewN0 ?_ _ | with_reducible refine Below.drew ?_ | with_reducible refine Below.alloc ?_ ?_ _ | with_reducible refine Below.setCell ?_ ?_ _ | go_size | exact Below.size (by assumption)))) (hb1.mono (by simp)); obtain ⟨a0, a1, a2, a3, a4⟩ := blk2 ((hb1.block w.heap.size (by simp)).trans (heap_alloc_new _ _))) | (go_at_call 105; refine (HC _ (hrf.below hbw)).mono ?_; rintro e w2 ⟨rfl, rfl⟩))
      go_ret
      exact ⟨rfl, hbw⟩
    · rw [if_neg hi]
      go_enter Try.func91, Try.ntmps91
      go_wp2_with (first | (go_at_call 31; refine (HR _ (hr.below ?_)).mono ?_; (repeat (first | with_reducible exact Below.refl _ _ | with_reducible assumption | with_reducible refine below_drewN0 ?_ _ | with_reducible refine Below.drew ?_ | with_reducible refine Below.alloc ?_ ?_ _ | with_reducible refine Below.setCell ?_ ?_ _ | go_size | exact Below.size (by assumption))); rintro e w1 ⟨rfl, hb1⟩; have hbw : Below w.heap.size w w1 := Below.trans (by (repeat (first | with_reducible exact Below.refl _ _ | with_reducible assumption | with_reducible refine below_drewN0 ?_ _ | with_reducible refine Below.drew ?_ | with_reducible refine Below.alloc ?_ ?_ _ | with_reducible refine Below.setCell ?_ ?_ _ | go_size | exact Below.size (by assumption)))) (hb1.mono (by simp)); obtain ⟨a0, a1, a2, a3, a4⟩ := blk2 ((hb1.block w.heap.size (by simp)).trans (heap_alloc_new _ _))) | (go_at_call 105; refine (HC _ (hrf.below hbw)).mono ?_; rintro e w2 ⟨rfl, rfl⟩))
      go_ret
      exact ⟨rfl, hbw⟩
  · have hf' : ((f.length : Int) != n) = true := by simpa using hf
    rw [if_pos (by simpa using hf)]
    clear hf
    go_enter Try.func91, Try.ntmps91
    go_wp2_with (first | (go_at_call 31; refine (HR _ (hr.below ?_)).mono ?_; (repeat (first | with_reducible exact Below.refl _ _ | with_reducible assumption | with_reducible refine below_drewN0 ?_ _ | with_reducible refine Below.drew ?_ | with_reducible refine Below.alloc ?_ ?_ _ | with_reducible refine Below.setCell ?_ ?_ _ | go_size | exact Below.size (by assumption))); rintro e w1 ⟨rfl, hb1⟩; have hbw : Below w.heap.size w w1 := Below.trans (by (repeat (first | with_reducible exact Below.refl _ _ | with_reducible assumption | with_reducible refine below_drewN0 ?_ _ | with_reducible refine Below.drew ?_ | with_reducible refine Below.alloc ?_ ?_ _ | with_reducible refine Below.setCell ?_ ?_ _ | go_size | exact Below.size (by assumption)))) (hb1.mono (by simp)); obtain ⟨a0, a1, a2, a3, a4⟩ := blk2 ((hb1.block w.heap.size (by simp)).trans (heap_alloc_new _ _))) | (go_at_call 105; refine (HC _ (hrf.below hbw)).mono ?_; rintro e w2 ⟨rfl, rfl⟩))
    go_ret
    exact ⟨rfl, hbw⟩
end Go.Proofs.Ytglhdoibglafbaa
