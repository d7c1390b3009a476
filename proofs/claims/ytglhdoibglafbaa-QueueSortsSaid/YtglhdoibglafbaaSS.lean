/- What is sorted is the list that reference's Put makes: plain. -/
import Derived.Test.YtglhdoibglafbaaQ7
import Derived.Sort.Statements
import Derived.Shelf.SlSortCmp.Insertion
namespace Go.Proofs.Ytglhdoibglafbaa
open Go Go.RowKit
set_option maxRecDepth 100000
set_option linter.unusedVariables false

theorem ord_eq : ∀ {l F : List PE}, InOrder l → InOrder F → l.Perm F → l = F
  | [], F, _, _, hp => (List.nil_perm.1 hp).symm
  | x :: l, [], _, _, hp => by have := hp.length_eq; simp at this
  | x :: l, y :: F, h1, h2, hp => by
    have g1 := List.pairwise_cons.1 h1
    have g2 := List.pairwise_cons.1 h2
    have hx : x ∈ y :: F := hp.mem_iff.1 (by simp)
    have hy : y ∈ x :: l := hp.mem_iff.2 (by simp)
    have hxy : x = y := by
      rcases List.mem_cons.1 hx with h | h
      · exact h
      rcases List.mem_cons.1 hy with h' | h'
      · exact h'.symm
      have a1 := g1.1 y h'
      have a2 := g2.1 x h
      unfold LtE at a1 a2
      apply Prod.ext <;> omega
    subst hxy
    rw [ord_eq g1.2 g2.2 (List.Perm.cons_inv hp)]

theorem sortL_perm (l : List PE) : (sortL l).Perm l := by
  unfold sortL
  suffices h : ∀ (l F : List PE), (l.foldl putE F).Perm (l ++ F) by simpa using h l []
  intro l
  induction l with
  | nil => intro F; exact List.Perm.refl _
  | cons e l ih =>
    intro F
    rw [List.foldl_cons]
    refine (ih _).trans ?_
    refine ((putE_perm F e).append_left l).trans ?_
    exact List.perm_middle
theorem sortL_order (l : List PE) : InOrder (sortL l) := by
  unfold sortL
  suffices h : ∀ (l F : List PE), InOrder F → InOrder (l.foldl putE F) from h l [] List.Pairwise.nil
  intro l
  induction l with
  | nil => intro F h; exact h
  | cons e l ih => intro F h; exact ih _ (putE_order e h)

theorem sorted_is (l : List PE) (d' : Array PE) (hp : Sort.PermIn 0 l.toArray.size l.toArray d') (hs : Sort.SortedIn (ltOf fun x y : PE => cmpE x.1 x.2 y.1 y.2) 0 l.toArray.size d') : d'.toList = sortL l := by
  obtain ⟨h1, _, h3⟩ := hp
  have hsz : d'.size = l.length := by simpa using h1
  have hpl : d'.toList.Perm l := by
    have e1 : d'.extract 0 l.toArray.size = d' := by rw [← h1]; simp
    have e2 : l.toArray.extract 0 l.toArray.size = l.toArray := by simp
    rw [e1, e2] at h3
    simpa using h3
  refine ord_eq ?_ (sortL_order l) (hpl.trans (sortL_perm l).symm)
  unfold InOrder
  refine List.pairwise_iff_getElem.2 fun i j hi hj hij hlt => ?_
  have h9 := hs i j (Nat.zero_le _) hij (by simpa [hsz] using hj)
  unfold ltOf at h9
  have h8 := of_decide_eq_false h9
  refine h8 ?_
  rw [cmpE_lt]
  have hi' : i < d'.size := by simpa using hi
  have hj' : j < d'.size := by simpa using hj
  rw [getElem!_pos d' i hi', getElem!_pos d' j hj']
  simpa using hlt

theorem swoE : Sort.SWO (ltOf fun x y : PE => cmpE x.1 x.2 y.1 y.2) := by
  have hT : ∀ x y : PE, ltOf (fun x y : PE => cmpE x.1 x.2 y.1 y.2) x y = true ↔ LtE x y := fun x y => by
    unfold ltOf
    rw [decide_eq_true_iff]
    exact cmpE_lt _ _ _ _
  have hF : ∀ x y : PE, ltOf (fun x y : PE => cmpE x.1 x.2 y.1 y.2) x y = false ↔ ¬ LtE x y := fun x y => by
    rw [← hT]; simp
  refine ⟨fun x => ?_, fun x y z h1 h2 => ?_, fun x y z h1 h2 => ?_⟩ <;> simp only [hT, hF] at * <;> unfold LtE at * <;> omega
end Go.Proofs.Ytglhdoibglafbaa
