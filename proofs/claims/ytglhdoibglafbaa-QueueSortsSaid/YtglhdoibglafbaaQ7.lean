/- The queue told by what is in it, in order; its waking call; the reference's Sorted. -/
import Derived.Test.YtglhdoibglafbaaQ5
import Derived.Test.YtglhdoibglafbaaQ6
namespace Go.Proofs.Ytglhdoibglafbaa
open Go Go.RowKit
set_option maxRecDepth 100000
set_option linter.unusedVariables false

/-- A queue of what F tells, in order. -/
def QF (w : World) (q B : Nat) (v : Value) (F : List PE) : Prop := ∃ es : List PE, QAt w q B v es ∧ HeapN es es.length ∧ es.Perm F ∧ InOrder F

theorem QF.below {w w' : World} {q B : Nat} {v : Value} {F : List PE} (h : QF w q B v F) (hb : Below w.heap.size w w') : QF w' q B v F := by
  obtain ⟨es, h1, h2, h3, h4⟩ := h
  exact ⟨es, h1.below hb, h2, h3, h4⟩
theorem QF.lt {w : World} {q B : Nat} {v : Value} {F : List PE} (h : QF w q B v F) : q < w.heap.size ∧ q < B ∧ ∀ g, v.ownBlock = some g → B ≤ g ∧ g < w.heap.size := by
  obtain ⟨es, h1, h2, h3, h4⟩ := h
  exact ⟨h1.lt, h1.hB, fun g hg => own_lt0 h1.own g hg⟩
theorem Touch.toBelow {q B0 : Nat} {v : Value} {a b : World} (h : Touch q v a b) (hq : B0 ≤ q) (hv : ∀ g, v.ownBlock = some g → B0 ≤ g) (hs : B0 ≤ a.heap.size) : Below B0 a b :=
  ⟨h.os, h.tape, h.output, h.size, fun k hk => h.block k (by omega) (by omega) (fun e => by have := hv k e; omega)⟩
/-- A row that the queue does not lie in. -/
def Sep (w : World) (q : Nat) (v : Value) (A : Option Addr) : Prop := ∀ a, A = some a → a.block < w.heap.size ∧ a.block ≠ q ∧ v.ownBlock ≠ some a.block
theorem Reads.touch {w w' : World} {q : Nat} {v : Value} {A : Option Addr} {cs : List Value} (h : Reads w A cs) (ht : Touch q v w w') (hs : Sep w q v A) : Reads w' A cs := by
  rcases h with h | ⟨b, o, rfl, hb, hc⟩
  · exact .inl h
  · obtain ⟨h1, h2, h3⟩ := hs _ rfl
    exact .inr ⟨b, o, rfl, Nat.lt_of_lt_of_le hb ht.size, fun j u hj => (World.cell?_of_block (a := ⟨b, o + j, none⟩) (ht.block b h1 h2 h3)).trans (hc j u hj)⟩
theorem Sep.push {w w' : World} {q : Nat} {v v' : Value} {A : Option Addr} (h : Sep w q v A) (hs : w.heap.size ≤ w'.heap.size) (hv : SameOr v v' w) : Sep w' q v' A := fun a ha => by
  obtain ⟨h1, h2, h3⟩ := h a ha
  refine ⟨by omega, h2, fun e => ?_⟩
  rcases hv _ e with h9 | h9
  · exact h3 h9
  · omega
theorem Touch.setnew {q : Nat} {v : Value} {a b : World} (h : Touch q v a b) {p : Addr} (hp : a.heap.size ≤ p.block) (u : Value) : Touch q v a (b.setCell p u) :=
  ⟨h.os, h.tape, h.output, by have := h.size; simpa [World.setCell] using this, fun k hk h1 h2 => (Below.heap_setCell _ _ _ _ (by omega)).trans (h.block k hk h1 h2)⟩
theorem QF.set {w : World} {q B : Nat} {v : Value} {F : List PE} (h : QF w q B v F) {a : Addr} (hq : q ≠ a.block) (hv : v.ownBlock ≠ some a.block) (u : Value) : QF (w.setCell a u) q B v F := by
  obtain ⟨es, h1, h2, h3, h4⟩ := h
  exact ⟨es, ⟨heap_far h1.blk hq u, own_far h1.own (fun g hg => Below.heap_setCell _ _ _ _ (fun e => hv (e ▸ hg))), h1.hB⟩, h2, h3, h4⟩
theorem SameOr.same {w : World} {v v' : Value} (h : v'.ownBlock = v.ownBlock) : SameOr v v' w := fun g hg => .inl (h ▸ hg)

theorem pushF (q B : Nat) (v : Value) (F : List PE) (x y : Int) (w : World) (hq : QF w q B v F) (hB : B ≤ w.heap.size) (hm : F.length < 2000000) :
    Calls Try.prog 19 #[.pointer (some ⟨q, 0, none⟩), .agg #[.int .i64 x, .int .i64 y]] w fun e w' => e = .returned (.int .i64 0) ∧ ∃ v', QF w' q B v' (putE F (x, y)) ∧ Touch q v w w' ∧ SameOr v v' w := by
  obtain ⟨es, h1, h2, h3, h4⟩ := hq
  refine (qPush q B v es x y w h1 h2 hB (by rw [h3.length_eq]; exact hm)).mono fun e w' h => ?_
  obtain ⟨v', es', he, hq', hp, hh, ht, hs⟩ := h
  exact ⟨he, v', ⟨es', hq', hh, hp.trans ((h3.cons _).trans (putE_perm F (x, y)).symm), putE_order _ h4⟩, ht, hs⟩

theorem peekF (q B : Nat) (v : Value) (x : PE) (F : List PE) (w : World) (hq : QF w q B v (x :: F)) :
    Calls Try.prog 23 #[.pointer (some ⟨q, 0, none⟩)] w fun e w' => e = .returned (.tuple #[.agg #[.int .i64 x.1, .int .i64 x.2], .int .i64 0]) ∧ Below w.heap.size w w' := by
  obtain ⟨es, h1, h2, h3, h4⟩ := hq
  obtain ⟨z, hz⟩ : ∃ z, es[0]? = some z := ⟨es[0]'(by rw [h3.length_eq]; simp), by simp⟩
  obtain rfl := heap_first h2 h3 h4 hz rfl
  exact qPeek q B v es z w h1 hz

theorem lenF (q B : Nat) (v : Value) (F : List PE) (w : World) (hq : QF w q B v F) : Calls Try.prog 24 #[.pointer (some ⟨q, 0, none⟩)] w fun e w' => e = .returned (.int .i64 (F.length : Int)) ∧ w = w' := by
  obtain ⟨es, h1, h2, h3, h4⟩ := hq
  rw [← h3.length_eq]
  exact qLen q B v es w h1

set_option maxHeartbeats 2000000 in
theorem popF (q B : Nat) (v : Value) (x : PE) (F : List PE) (w : World) (hq : QF w q B v (x :: F)) (hm : F.length ≤ 2000000) :
    Calls Try.prog 21 #[.pointer (some ⟨q, 0, none⟩)] w fun e w' => e = .returned (.tuple #[.agg #[.int .i64 x.1, .int .i64 x.2], .int .i64 0]) ∧ ∃ v', QF w' q B v' F ∧ Touch q v w w' ∧ v'.ownBlock = v.ownBlock := by
  have HPk := fun W hQ => peekF q B v x F W hQ
  have hPop : ∀ W, QF W q B v (x :: F) → Calls Try.prog 63 #[.iface 92 (.pointer (some ⟨q, 0, none⟩))] W fun e w' => (∃ u, e = .returned u) ∧ ∃ v', QF w' q B v' F ∧ Touch q v W w' ∧ v'.ownBlock = v.ownBlock := fun W hQ => by
    obtain ⟨es, h1, h2, h3, h4⟩ := hQ
    obtain ⟨z, hz⟩ : ∃ z, es[0]? = some z := ⟨es[0]'(by rw [h3.length_eq]; simp), by simp⟩
    obtain rfl := heap_first h2 h3 h4 hz rfl
    refine (hPop q B F.length v es z W h1 h2 hz (by rw [h3.length_eq]; simp) (by rw [h3.length_eq]; simp; omega)).mono fun e w' h => ?_
    obtain ⟨v', es', he, hq', hp, hh, ht, hv⟩ := h
    exact ⟨⟨_, he⟩, v', ⟨es', hq', hh, List.Perm.cons_inv (hp.trans h3), (List.pairwise_cons.1 h4).2⟩, ht, hv⟩
  have HQ := Lib.hid hq
  have hql := hq.lt.1
  have hvl := Lib.hid (fun g hg => (hq.lt.2.2 g hg).2)
  clear hq
  go_enter Try.func21, Try.ntmps21
  go_wp2_with (first
    | (go_at_call 23; go_loud (refine (HPk _ (HQ.out.below ?_)).mono ?_; (repeat (first | with_reducible exact Below.refl _ _ | with_reducible assumption | with_reducible refine below_drewN0 ?_ _ | with_reducible refine Below.drew ?_ | with_reducible refine Below.alloc ?_ ?_ _ | with_reducible refine Below.setCell ?_ ?_ _ | go_size | exact Below.size (by assumption))); rintro e w1 ⟨rfl, hb1⟩; have hw1 : Below w.heap.size w w1 := Below.trans (by (repeat (first | with_reducible exact Below.refl _ _ | with_reducible assumption | with_reducible refine below_drewN0 ?_ _ | with_reducible refine Below.drew ?_ | with_reducible refine Below.alloc ?_ ?_ _ | with_reducible refine Below.setCell ?_ ?_ _ | go_size | exact Below.size (by assumption)))) (hb1.mono (by simp)); have hg := blk2 ((hb1.block w.heap.size (by simp)).trans (heap_alloc_new w _)); obtain ⟨a0, a1, a2, a3, a4⟩ := hg))
    | (go_at_call 63; go_loud (
       refine (hPop _ (HQ.out.below ?_)).mono ?_
       · (repeat (first | with_reducible exact Below.refl _ _ | with_reducible assumption | with_reducible refine below_drewN0 ?_ _ | with_reducible refine Below.drew ?_ | with_reducible refine Below.alloc ?_ ?_ _ | with_reducible refine Below.setCell ?_ ?_ _ | go_size | exact Below.size (by assumption)))
       rintro e w2 ⟨⟨u, rfl⟩, v2, hq2, ht2, hv2⟩
       have hs1 := hw1.size
       obtain ⟨b0, b1, b2, b3, b4⟩ := blk2 ((ht2.block w1.heap.size (by simp) (by omega) (fun h9 => by have := hvl.out _ h9; omega)).trans (heap_alloc_new w1 _))
       obtain ⟨c0, c1, c2, c3, c4⟩ := blk2 ((ht2.block w.heap.size (by simp; omega) (by omega) (fun h9 => by have := hvl.out _ h9; omega)).trans (heap_old ((hb1.block w.heap.size (by simp)).trans (heap_alloc_new w _)))))))
  refine bodyPost_ret (v := .tuple #[.agg #[.int .i64 x.1, .int .i64 x.2], .int .i64 0]) (by simp [results, Try.results21, go_sem, c0, c1]) rfl ?_
  have hvn : v2.ownBlock ≠ some w.heap.size := fun h9 => by have := hvl.out _ (hv2 ▸ h9); omega
  exact ⟨rfl, v2, (hq2.set (a := ⟨w.heap.size, 0, none⟩) (by dsimp only; omega) hvn _).set (a := ⟨w.heap.size, 1, none⟩) (by dsimp only; omega) hvn _,
    ((((Touch.refl q v w).below (hw1.alloc hs1 _)).trans ht2).setnew (p := ⟨w.heap.size, 0, none⟩) (Nat.le_refl _) _).setnew (p := ⟨w.heap.size, 1, none⟩) (Nat.le_refl _) _, hv2⟩

theorem newF (w : World) : Calls Try.prog 17 #[] w fun e w' => e = .returned (.pointer (some ⟨w.heap.size, 0, none⟩)) ∧ QF w' w.heap.size (w.heap.size + 1) (.slice none 0 0) [] ∧ Below w.heap.size w w' ∧ w'.heap.size = w.heap.size + 1 :=
  (qNew w).mono fun e w' ⟨he, hq, hb, hs⟩ => ⟨he, ⟨[], hq, fun i h0 h1 => by simp at h1, List.Perm.refl _, List.Pairwise.nil⟩, hb, hs⟩

def sortL (l : List PE) : List PE := l.foldl putE []
theorem sortL_one (l : List PE) (k : Nat) (e : PE) (h : l[k]? = some e) : sortL (l.take (k + 1)) = putE (sortL (l.take k)) e := by
  unfold sortL
  rw [List.take_add_one, h]
  simp
theorem sortL_length (l : List PE) : (sortL l).length = l.length := by
  unfold sortL
  suffices h : ∀ (l F : List PE), (l.foldl putE F).length = F.length + l.length by simpa using h l []
  intro l
  induction l with
  | nil => intro F; simp
  | cons e l ih => intro F; rw [List.foldl_cons, ih, putE_length]; simp; omega

set_option maxHeartbeats 2000000 in
theorem sortedQ (l : List PE) (A : Option Addr) (c : Nat) (w : World) (hr : Reads w A (pcells l)) (hc : l.length ≤ c) (hm : l.length ≤ 90000) :
    Calls Try.prog 20 #[.slice A l.length c] w fun e w' => ∃ v, e = .returned v ∧ w'.ownsRow w.heap.size 39 2 v l.length (pcells (sortL l)) ∧ Below w.heap.size w w' := by
  go_enter Try.func20, Try.ntmps20
  go_wp2_with fail
  go_loopw [3, 4] (fun v3 i wr => ∃ k : Nat, k ≤ l.length ∧ i = .int .i64 k ∧ Hid (wr.ownsRow w.heap.size 39 2 v3 k (pcells (sortL (l.take k)))) ∧ Below w.heap.size w wr) (fun _ i _ => l.length - (intOf i).toNat)
  case atStart => exact ⟨0, Nat.zero_le _, rfl, own_nil0 _ _ _ _, Below.refl _ _⟩
  case round =>
    obtain ⟨k, hk, rfl, ho, hb⟩ := hrel
    obtain ⟨A3, c3, rfl, hc3, hr3⟩ := own_reads0 ho.out
    by_cases hlt : k < l.length
    · obtain ⟨e, he⟩ : ∃ e, l[k]? = some e := ⟨l[k], by simp [hlt]⟩
      obtain ⟨b, o, rfl, hbl, e1, e2⟩ := (hr.below hb).pair' k e he
      have HS := Lib.hid (sortL_one l k e he)
      have hsl : (sortL (l.take k)).length = k := by rw [sortL_length, List.length_take]; omega
      have HP := fun W hR => putQ (sortL (l.take k)) e.1 e.2 A3 c3 W hR (by rw [hsl]; exact hc3) (by rw [hsl]; omega)
      rw [hsl] at HP
      clear he hsl
      go_wp2_with (go_at_call 22; go_loud (refine (HP _ hr3).mono ?_; rintro e' w1 ⟨v1, rfl, ho1, hb1⟩))
      go_roundw
      case rel => exact ⟨k + 1, by omega, by go_num, by rw [HS.out]; exact own_cast ho1 hb.size rfl rfl, hb.trans (hb1.mono hb.size)⟩
      case measure => simp [intOf]; omega
    · obtain rfl : k = l.length := by omega
      go_wp2_with fail
      go_ret
      rw [List.take_length] at ho
      exact ⟨_, rfl, ho.out, hb⟩

end Go.Proofs.Ytglhdoibglafbaa
