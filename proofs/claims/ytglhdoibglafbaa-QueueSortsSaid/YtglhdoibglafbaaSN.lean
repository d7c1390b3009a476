/- Walk of queue.Sorted. -/
import Derived.Test.YtglhdoibglafbaaSW
import Derived.Test.YtglhdoibglafbaaQS
import Derived.Test.YtglhdoibglafbaaSZ
import Derived.Shelf.SlSortCmp.WholeK
namespace Go.Proofs.Ytglhdoibglafbaa
open Go Go.RowKit
set_option maxRecDepth 100000
set_option linter.unusedVariables false

theorem sort_any (l : List PE) (g c : Nat) (cur : List Value) (T : TypeId) (w : World) (hg : w.heap[g]? = some (.cells cur.toArray T (0, 0))) (ht : cur.take (l.length * 2) = pcells l) (hm : l.length ≤ 90000) :
    Calls Try.prog 84 #[.slice (some ⟨g, 0, none⟩) l.length c, .func (.func 85) #[] #[]] w fun e w' => e = .returned (.tuple #[]) ∧ Reads w' (some ⟨g, 0, none⟩) (pcells (sortL l)) ∧ ∀ B, B ≤ g → B ≤ w.heap.size → Below B w w' := by
  have hH := holds_of hg ht
  have hgl := heap_lt0 hg
  have eg : ∀ args w, (callFunc 85 args).run Try.prog w = .ok (.enter 85 args) w := enters_of Try.func85 (by kernel_rfl) rfl
  have aE : ∀ w, (isAgg 39).run Try.prog w = .ok true w := fun w => by kernel_rfl
  have zE : ∀ w, (Go.sizeOf 39).run Try.prog w = .ok 2 w := fun w => by kernel_rfl
  have h := AnyQ.slices_SortFunc sortN 2 aE zE encP (fun _ => rfl) (fun x v hv => by simp [encP] at hv; rcases hv with rfl | rfl <;> rfl) (fun x y : PE => cmpE x.1 x.2 y.1 y.2) swoE 85 #[] g 0 c l.toArray w eg (fun _ _ _ _ x y => compareG x.1 x.2 y.1 y.2 _) hH hgl (by simp; omega)
  have hsz : l.toArray.size = l.length := by simp
  change Calls Try.prog 84 #[.slice (some ⟨g, 0, none⟩) l.toArray.size c, .func (.func 85) #[] #[]] w _ at h
  rw [hsz] at h
  refine h.mono fun e w' => ?_
  rintro ⟨he, d', n, os, hp, hs, rfl⟩
  refine ⟨he, ?_, fun B h1 h2 => below_sort h1 h2⟩
  have hd := sorted_is l d' (by rw [hsz]; exact hp) (by rw [hsz]; exact hs)
  rw [← hd]
  have hsd : d'.size = l.toArray.size := hp.1
  exact reads_holds (holdsK_sortWorldK_c encP 2 w g 0 l.toArray d' n os hH hgl hsd) (Nat.lt_of_lt_of_le hgl (size_sortWorldK_c encP 2 w g 0 n d' os))

set_option maxHeartbeats 2000000 in
theorem sortedN (l : List PE) (A : Option Addr) (c : Nat) (w : World) (hr : Reads w A (pcells l)) (hc : l.length ≤ c) (hm : l.length ≤ 90000) :
    Calls Try.prog 55 #[.slice A l.length c] w (SortedPost l w) := by
  have HC := cloneN l A c w hr hc (by omega)
  by_cases h0 : l = []
  · subst h0
    have HZ := fun A c fv W => sort_0N A c fv W
    clear hr
    simp only [List.length_nil] at *
    go_enter Try.func55, Try.ntmps55
    go_wp2_with (first
      | (go_at_call 83; go_loud (refine HC.mono ?_; rintro e w1 ⟨v1, rfl, ho1, hb1⟩; obtain ⟨A1, c1, rfl, hc1, hr1⟩ := own_reads0 ho1))
      | (go_at_call 84; go_loud (refine (HZ _ _ _ _).mono ?_; rintro e w2 ⟨rfl, rfl⟩)))
    go_ret
    exact ⟨_, _, rfl, hc1, hr1, hb1⟩
  · have hl0 : 0 < l.length := List.length_pos_iff.2 h0
    have HS := fun g c cur T W hg ht => sort_any l g c cur T W hg ht hm
    clear hr
    go_enter Try.func55, Try.ntmps55
    go_wp2_with (first
      | (go_at_call 83; go_loud (refine HC.mono ?_; rintro e w1 ⟨v1, rfl, ho1, hb1⟩; obtain ⟨g, c1, cur, rfl, hBg, hgl, hh, hnc, _, _, htk⟩ := own_open ho1 hl0; have HH := Lib.hid hh; have HT := Lib.hid htk; clear hh htk ho1))
      | (go_at_call 84; go_loud (refine (HS g c1 cur _ _ HH.out HT.out).mono ?_; rintro e w2 ⟨rfl, hr2, hb2⟩)))
    go_ret
    exact ⟨_, _, rfl, hnc, hr2, hb1.trans (hb2 _ hBg hb1.size)⟩

theorem sorts_any (l : List PE) (A : Option Addr) (c : Nat) (w : World) (hr : Reads w A (pcells l)) (hc : l.length ≤ c) (hm : l.length ≤ 4611686018427387903) :
    Calls Try.prog 10 #[.slice A l.length c] w fun e w' => e = .returned (.bool true) ∧ Below w.heap.size w w' := sorts_of sortedN l A c w hr hc hm
end Go.Proofs.Ytglhdoibglafbaa
