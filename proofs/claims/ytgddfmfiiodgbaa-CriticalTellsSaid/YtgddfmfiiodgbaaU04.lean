/- Rows of rows of numbers, each the call's own (no program in sight). -/
import Derived.Test.YtgddfmfiiodgbaaU03
import Derived.Test.YtgddfmfiiodgbaaU02
import Derived.Deep.OwnRows
import Derived.Deep.RegionLaw
import Derived.Deep.CutBlock
namespace Go.Proofs.Ytgddfmfiiodgbaa
open Go Go.RowKit
set_option maxRecDepth 100000
set_option linter.unusedVariables false
set_option linter.unusedSimpArgs false

/-- Block B holds rows of numbers, each the call's own, no two in one block. -/
structure RowsI (w : World) (T e : TypeId) (base B : Nat) (vs : List Value) (ls : List (List Int)) : Prop where
  blk : w.heap[B]? = some (.cells vs.toArray T (0, 0))
  len : vs.length = ls.length
  own : ∀ (i : Nat) v l, vs[i]? = some v → ls[i]? = some l → w.ownsRow base e 1 v l.length (icells l)
  apart : ∀ (i j : Nat) v v' g, i ≠ j → vs[i]? = some v → vs[j]? = some v' → v.ownBlock = some g → v'.ownBlock ≠ some g
  hB : B < base

theorem heap_lt {w : World} {g : Nat} {o : Obj} (h : w.heap[g]? = some o) : g < w.heap.size := by
  rcases Nat.lt_or_ge g w.heap.size with hl | hl
  · exact hl
  · rw [Array.getElem?_eq_none hl] at h; cases h

section
variable {w w' : World} {T e : TypeId} {base B : Nat} {vs : List Value} {ls : List (List Int)}

theorem RowsI.lt (h : RowsI w T e base B vs ls) : B < w.heap.size := heap_lt h.blk

theorem RowsI.get (h : RowsI w T e base B vs ls) (i : Nat) (l : List Int) (hl : ls[i]? = some l) : ∃ v A c, vs[i]? = some v ∧ v = .slice A l.length c ∧ l.length ≤ c ∧ Reads w A (icells l) ∧ w.ownsRow base e 1 v l.length (icells l) ∧ w.cell? ⟨B, i, none⟩ = some v := by
  have hi : i < vs.length := by rw [h.len]; exact (List.getElem?_eq_some_iff.1 hl).1
  have hv : vs[i]? = some vs[i] := by simp [hi]
  have ho := h.own i _ l hv hl
  obtain ⟨A, c, h1, h2, h3⟩ := own_reads0 ho
  refine ⟨_, A, c, hv, h1, h2, h3, ho, ?_⟩
  rw [cell_of_row w B i _ T (0, 0) h.blk]
  simp [hi]

theorem RowsI.frozen (h : RowsI w T e base B vs ls) (i : Nat) : w.frozen? ⟨B, i, none⟩ = false := by simp [World.frozen?, h.blk]

theorem RowsI.far (h : RowsI w T e base B vs ls) (hk : ∀ g, g < w.heap.size → w'.heap[g]? = w.heap[g]?) : RowsI w' T e base B vs ls :=
  ⟨(hk B h.lt).trans h.blk, h.len, fun i v l hv hl => own_far (h.own i v l hv hl) fun g hg => hk g (own_lt0 (h.own i v l hv hl) g hg).2, h.apart, h.hB⟩

theorem RowsI.below (h : RowsI w T e base B vs ls) {B' : Nat} (hb : Below B' w w') (hB : w.heap.size ≤ B') : RowsI w' T e base B vs ls :=
  h.far fun g hg => hb.block g (Nat.lt_of_lt_of_le hg hB)

/-- One row has grown, and is stored back. -/
theorem RowsI.store (h : RowsI w T e base B vs ls) (i : Nat) {v v' : Value} {l' : List Int} (hv : vs[i]? = some v) (ho : w'.ownsRow base e 1 v' l'.length (icells l')) (hg : w.grownBy w' v.ownBlock)
    (hat : v'.ownBlock = v.ownBlock ∨ v'.ownBlock = some w.heap.size) : RowsI (w'.setCell ⟨B, i, none⟩ v') T e base B (vs.set i v') (ls.set i l') := by
  have hvi := (List.getElem?_eq_some_iff.1 hv).1
  have hob : ∀ (j : Nat) (u : Value) (l : List Int) (g : Nat), vs[j]? = some u → ls[j]? = some l → u.ownBlock = some g → base ≤ g ∧ g < w.heap.size := fun j u l g hu hl hg => own_lt0 (h.own j u l hu hl) g hg
  have hls : ∀ (j : Nat) (u : Value), vs[j]? = some u → ∃ l, ls[j]? = some l := fun j u hu => ⟨ls[j]'(by rw [← h.len]; exact (List.getElem?_eq_some_iff.1 hu).1), by simp⟩
  obtain ⟨l0, hl0⟩ := hls i v hv
  have hBne : some B ≠ v.ownBlock := fun hh => by have := (hob i v l0 B hv hl0 hh.symm).1; have := h.hB; omega
  have hBw' : w'.heap[B]? = some (.cells vs.toArray T (0, 0)) := (hg.block B h.lt hBne).trans h.blk
  have hset : ∀ g, g ≠ B → (w'.setCell ⟨B, i, none⟩ v').heap[g]? = w'.heap[g]? := fun g hgB => Below.heap_setCell _ _ _ _ hgB
  refine ⟨?_, by simp [h.len], ?_, ?_, h.hB⟩
  · simp [World.setCell, Array.getElem?_modify, hBw']
  · intro j u l hu hl
    by_cases hj : i = j
    · subst hj
      rw [List.getElem?_set_self hvi] at hu
      rw [List.getElem?_set_self (by rw [← h.len]; exact hvi)] at hl
      cases hu; cases hl
      exact own_far ho fun g hg' => hset g (by have := (own_lt0 ho g hg').1; have := h.hB; omega)
    · rw [List.getElem?_set_ne hj] at hu hl
      refine own_far (h.own j u l hu hl) fun g hg' => ?_
      have hh := hob j u l g hu hl hg'
      rw [hset g (by have := h.hB; omega)]
      exact hg.block g hh.2 (fun hx => h.apart i j v u g hj hv hu hx.symm hg')
  · intro j k u u' g hjk hu hu' hx
    by_cases hj : i = j
    · subst hj
      rw [List.getElem?_set_self hvi] at hu
      cases hu
      rw [List.getElem?_set_ne hjk] at hu'
      obtain ⟨lk, hlk⟩ := hls k u' hu'
      rcases hat with hat | hat
      · exact h.apart i k v u' g hjk hv hu' (hat ▸ hx)
      · intro hy
        have := (hob k u' lk g hu' hlk hy).2
        rw [hat] at hx
        cases hx
        omega
    · rw [List.getElem?_set_ne hj] at hu
      by_cases hk : i = k
      · subst hk
        rw [List.getElem?_set_self hvi] at hu'
        cases hu'
        obtain ⟨lj, hlj⟩ := hls j u hu
        rcases hat with hat | hat
        · rw [hat]; exact h.apart j i u v g hjk hu hv hx
        · intro hy
          have := (hob j u lj g hu hlj hx).2
          rw [hat] at hy
          cases hy
          omega
      · rw [List.getElem?_set_ne hk] at hu'
        exact h.apart j k u u' g hjk hu hu' hx

theorem made_nil (n : Nat) : madeCells #[.slice none 0 0] n = (List.replicate n (.slice none 0 0 : Value)).toArray := by
  apply Array.ext
  · simp [madeCells]
  · intro i h1 h2
    simp [madeCells, Nat.mod_one]

theorem RowsI.made {n : Nat} (hw : w.heap[B]? = some (.cells (madeCells #[.slice none 0 0] n) T (0, 0))) (hB : B < base) : RowsI w T e base B (List.replicate n (.slice none 0 0)) (List.replicate n []) := by
  refine ⟨by rw [hw, made_nil], by simp, ?_, ?_, hB⟩
  · intro i v l hv hl
    rw [List.getElem?_replicate] at hv hl
    split at hv
    · rw [if_pos ‹_›] at hl
      cases hv; cases hl
      exact own_nil0 _ _ _ _
    · cases hv
  · intro i j v v' g _ hv _ hg
    rw [List.getElem?_replicate] at hv
    split at hv
    · cases hv; simp [Value.ownBlock] at hg
    · cases hv
end
end Go.Proofs.Ytgddfmfiiodgbaa

/- A row of the call's own: a cell read, a cell written (no program in sight). -/
namespace Go.Proofs.Ytgddfmfiiodgbaa
open Go Go.RowKit
set_option maxRecDepth 100000
set_option linter.unusedVariables false
set_option linter.unusedSimpArgs false

section
variable {w : World} {base e size : Nat} {v : Value} {n : Nat} {xs : List Value}

/-- Where an own row that is not empty lies. -/
theorem own_block (h : w.ownsRow base e size v n xs) (hn : 0 < n) : ∃ g c, v = .slice (some ⟨g, 0, none⟩) n c ∧ n ≤ c ∧ base ≤ g ∧ g < w.heap.size ∧
    (∀ j u, xs[j]? = some u → w.cell? ⟨g, j, none⟩ = some u) ∧ (∀ j, w.frozen? ⟨g, j, none⟩ = false) := by
  obtain ⟨h0, h2⟩ := h
  rcases h2 with ⟨rfl, rfl⟩ | ⟨g, cap, cur, rfl, hg, hh, hnc, _, hsz, htk⟩
  · omega
  · refine ⟨g, cap, rfl, hnc, hg, ?_, fun j u hu => ?_, fun j => by simp [World.frozen?, hh]⟩
    · rcases Nat.lt_or_ge g w.heap.size with hl | hl
      · exact hl
      · rw [Array.getElem?_eq_none hl] at hh; cases hh
    · rw [cell_of_row w g j cur e (0, 0) hh]
      rw [← htk, List.getElem?_take] at hu
      split at hu
      · simpa using hu
      · cases hu

/-- A cell of an own row is written. -/
theorem own_write {g c : Nat} (h : w.ownsRow base e size (.slice (some ⟨g, 0, none⟩) n c) n xs) (j : Nat) (hj : j < xs.length) (u : Value) :
    (w.setCell ⟨g, j, none⟩ u).ownsRow base e size (.slice (some ⟨g, 0, none⟩) n c) n (xs.set j u) := by
  obtain ⟨h0, h2⟩ := h
  refine ⟨by simpa using h0, ?_⟩
  rcases h2 with ⟨hv, rfl⟩ | ⟨g', cap, cur, hv, hg, hh, hnc, hcm, hsz, htk⟩
  · cases hv
  · simp only [Value.slice.injEq, Option.some.injEq, Addr.mk.injEq, and_true, true_and] at hv
    obtain ⟨rfl, rfl⟩ := hv
    refine .inr ⟨g, c, cur.setIfInBounds j u, rfl, hg, ?_, hnc, hcm, by simpa using hsz, ?_⟩
    · simp [World.setCell, Array.getElem?_modify, hh]
    · rw [Array.toList_setIfInBounds, List.take_set, htk]
theorem own_reads1 {A : Option Addr} {c m : Nat} (h : w.ownsRow base e size (.slice A m c) n xs) : Reads w A xs ∧ n ≤ c ∧ m = n := by
  obtain ⟨A', c', hv, h1, h2⟩ := own_reads0 h
  simp only [Value.slice.injEq] at hv
  obtain ⟨rfl, rfl, rfl⟩ := hv
  exact ⟨h2, h1, rfl⟩
end

theorem addr_map (b o k : Nat) : ((some ⟨b, o, none⟩ : Option Addr).map (·.add k)) = some ⟨b, o + k, none⟩ := by
  have : (⟨b, o, none⟩ : Addr).add k = ⟨b, o + k, none⟩ := by unfold Addr.add; split <;> simp_all
  simp [this]
theorem pcells_set0 (l : List (Int × Int)) (k : Nat) (x y x' : Int) (h : l[k]? = some (x, y)) : (pcells l).set (k * 2) (.int .i64 x') = pcells (l.set k (x', y)) := by
  induction l generalizing k with
  | nil => simp at h
  | cons a l ih =>
    cases k with
    | zero => simp at h; subst h; simp [pcells]
    | succ k =>
      have := ih k (by simpa using h)
      simp only [pcells, List.flatMap_cons, List.set_cons_succ] at this ⊢
      rw [← this, show (k + 1) * 2 = k * 2 + 1 + 1 by omega]
      simp
theorem pcells_set1 (l : List (Int × Int)) (k : Nat) (x y y' : Int) (h : l[k]? = some (x, y)) : (pcells l).set (k * 2 + 1) (.int .i64 y') = pcells (l.set k (x, y')) := by
  induction l generalizing k with
  | nil => simp at h
  | cons a l ih =>
    cases k with
    | zero => simp at h; subst h; simp [pcells]
    | succ k =>
      have := ih k (by simpa using h)
      simp only [pcells, List.flatMap_cons, List.set_cons_succ] at this ⊢
      rw [← this, show (k + 1) * 2 + 1 = k * 2 + 1 + 1 + 1 by omega]
      simp
end Go.Proofs.Ytgddfmfiiodgbaa

/- The walk of graph.Lists. -/
namespace Go.Proofs.Ytgddfmfiiodgbaa
open Go Go.RowKit
set_option maxRecDepth 100000
set_option linter.unusedVariables false
set_option linter.unusedSimpArgs false

theorem reads_new' (w : World) (o : Obj) (cs : List Value) (t : TypeId) : Reads (((w.alloc o).alloc (.cells cs.toArray t)).drew) (some ⟨w.heap.size + 1, 0, none⟩) cs := by
  have h := reads_new (w.alloc o) cs t
  rw [World.size_alloc] at h
  exact h

/-- What Lists leaves. -/
def ListsPost (n : Nat) (es : List (Int × Int)) (w : World) (e : Ending) (w' : World) : Prop :=
  ∃ (B : Nat) (vs : List Value), e = .returned (.slice (some ⟨B, 0, none⟩) n n) ∧ w.heap.size ≤ B ∧ RowsI w' 22 3 (B + 1) B vs (rowsF n (nearL es)) ∧ Below w.heap.size w w'


set_option maxHeartbeats 4000000 in
theorem lists_any (n : Nat) (es : List (Int × Int)) (A : Option Addr) (c : Nat) (w : World) (hr : Reads w A (pcells es)) (hc : es.length ≤ c) (hm : es.length ≤ 2000000) (hn : n ≤ 1000000)
    (hok : ∀ e ∈ es, 0 ≤ e.1 ∧ e.1 < (n : Int) ∧ 0 ≤ e.2 ∧ e.2 < (n : Int)) :
    Calls Try.prog 94 #[.int .i64 (n : Int), .slice A es.length c] w (ListsPost n es w) := by
  have hmk := fun w0 : World => run_make_row' (P := Try.prog) 76 22 (.slice none 0 0) 24 Try.underlying76 (by kernel_rfl) rfl .i64 .i64 n (by omega) (by omega) w0
  go_enter Try.func94, Try.ntmps94
  go_wp2_with fail
  generalize hW : w.alloc (Obj.cells (madeCells #[Value.slice none 0 0] n) 22) = W
  have hbW : Below w.heap.size w W := by rw [← hW]; (repeat (first | with_reducible exact Below.refl _ _ | with_reducible assumption | with_reducible refine below_drewN0 ?_ _ | with_reducible refine Below.drew ?_ | with_reducible refine Below.alloc ?_ ?_ _ | with_reducible refine Below.setCell ?_ ?_ _ | go_size | exact Below.size (by assumption)))
  have hR0 : RowsI W 22 3 (w.heap.size + 1) w.heap.size (List.replicate n (.slice none 0 0)) (List.replicate n []) := RowsI.made (by rw [← hW]; exact heap_alloc_new _ _) (by omega)
  have hR1 : (List.replicate n ([] : List Int)) = rowsF n (fun v => lowL (es.take 0) v) := (rowsF_nil n _ (fun v => by simp [lowL])).symm
  rw [hR1] at hR0
  have HR0 := Lib.hid hR0
  have HOK := Lib.hid hok
  have hWs : W.heap.size = w.heap.size + 1 := by rw [← hW]; simp
  clear hW hmk hR0 hR1 hok
  go_loopw [14] (fun i wr => ∃ (k : Nat) (vs : List Value), k ≤ es.length ∧ i = .int .i64 k ∧ Hid (RowsI wr 22 3 (w.heap.size + 1) w.heap.size vs (rowsF n (fun v => lowL (es.take k) v))) ∧ Below w.heap.size w wr) (fun i _ => es.length - (intOf i).toNat)
  case atStart => exact ⟨0, _, Nat.zero_le _, rfl, HR0, hbW⟩
  case round =>
    clear HR0 hbW hWs
    clear W
    obtain ⟨k, vs, hk, rfl, hR, hb⟩ := hrel
    by_cases hlt : k < es.length
    · obtain ⟨⟨x, y⟩, hxy⟩ : ∃ e, es[k]? = some e := ⟨es[k], by simp [hlt]⟩
      obtain ⟨b, o, rfl, hbl, e1, e2⟩ := (hr.below hb).pair' k _ hxy
      obtain ⟨x0, x1, y0, y1⟩ := HOK.out _ (List.mem_of_getElem? hxy)
      dsimp only at x0 x1 y0 y1
      obtain ⟨xn, rfl⟩ : ∃ m : Nat, x = m := ⟨x.toNat, by omega⟩
      obtain ⟨yn, rfl⟩ : ∃ m : Nat, y = m := ⟨y.toNat, by omega⟩
      (have yn1 : yn < n := by omega
       have HXY := Lib.hid hxy
       clear hxy
       obtain ⟨v, A1, c1, hv, rfl, hc1, hrd, ho, hcell⟩ := hR.out.get yn _ (rowsF_get _ _ _ yn1)
       have hlow : ((fun v => lowL (es.take k) v) yn).length ≤ es.length + es.length := by simp only; first | (have := lowL_length (es.take k) yn; have := List.length_take_le k es; omega) | (rw [List.length_append]; have := lowL_length es yn; have := highL_length (es.take k) yn; have := List.length_take_le k es; omega)
       have htk := List.length_take_le k es
       have hfz := hR.out.frozen yn
       have hlB := hR.out.lt
       have HV := Lib.hid hv
       have HO := Lib.hid ho
       clear hv ho hrd
       have hl0 : ∃ l, l = (fun v => lowL (es.take k) v) yn := ⟨_, rfl⟩
       obtain ⟨l, hl⟩ := hl0
       simp only [← hl] at hlow hc1 hcell HV HO
       have HL := Lib.hid hl
       clear hl
       have hA1 : Below wr.heap.size wr (wr.alloc (Obj.cells #[Value.int .i64 (xn : Int), Value.int .i64 (yn : Int)] 49)) := by (repeat (first | with_reducible exact Below.refl _ _ | with_reducible assumption | with_reducible refine below_drewN0 ?_ _ | with_reducible refine Below.drew ?_ | with_reducible refine Below.alloc ?_ ?_ _ | with_reducible refine Below.setCell ?_ ?_ _ | go_size | exact Below.size (by assumption)))
       have hE := blk2 (heap_alloc_new wr (Obj.cells #[Value.int .i64 (xn : Int), Value.int .i64 (yn : Int)] 49))
       have HS := Lib.hid (fun (w' : World) (h : Below (wr.heap.size + 1) (wr.alloc (Obj.cells #[Value.int .i64 (xn : Int), Value.int .i64 (yn : Int)] 49)) w') => (⟨(h.cell (p := ⟨w.heap.size, yn, none⟩) (by dsimp only; omega)).trans ((Below.cell (p := ⟨w.heap.size, yn, none⟩) hA1 hlB).trans hcell), (h.cell (p := ⟨wr.heap.size, 0, none⟩) (by dsimp only; omega)).trans hE.1, (h.cell (p := ⟨wr.heap.size, 1, none⟩) (by dsimp only; omega)).trans hE.2.1⟩ :
         w'.cell? ⟨w.heap.size, yn, none⟩ = some (.slice A1 l.length c1) ∧ w'.cell? ⟨wr.heap.size, 0, none⟩ = some (.int .i64 (xn : Int)) ∧ w'.cell? ⟨wr.heap.size, 1, none⟩ = some (.int .i64 (yn : Int))))
       go_upto_block 1 with fail
       go_cut [5] (fun v5 wc => ∃ vs' : List Value, v5 = .slice (some ⟨w.heap.size, 0, none⟩) n n ∧ Hid (RowsI wc 22 3 (w.heap.size + 1) w.heap.size vs' (rowsF n (fun v => lowL (es.take (k + 1)) v))) ∧ Below w.heap.size w wc)
       case first =>
         go_wp2_with fail
         go_region_law
           (first
             | (refine step_app EI_int rfl (.tmp 25) (.tmp 28) rfl (w.heap.size + 1) (.slice A1 l.length c1) l.length (icells l) rfl ?_ (some ⟨_, 0, none⟩) 1 1 [.int .i64 (xn : Int)] rfl ?_ rfl ?_ ?_ ?_ ?_
                · exact own_below0 HO.out (by (repeat (first | with_reducible exact Below.refl _ _ | with_reducible assumption | with_reducible refine below_drewN0 ?_ _ | with_reducible refine Below.drew ?_ | with_reducible refine Below.alloc ?_ ?_ _ | with_reducible refine Below.setCell ?_ ?_ _ | go_size | exact Below.size (by assumption))))
                · exact reads_new' wr _ [_] _
                · simp [Value.oneCell']
                · omega
                · go_size
                intro v2 w2 hown2 hg2 hat2
                obtain ⟨A2, c2, rfl, hc2, _⟩ := own_reads0 hown2
                have hne : ∀ g, (g = w.heap.size ∨ g = wr.heap.size) → some g ≠ (Value.slice A1 l.length c1).ownBlock := fun g hg hx => by
                  have h9 := own_lt0 HO.out g hx.symm
                  omega
                have hS1 := HS.out (((wr.alloc (Obj.cells #[Value.int .i64 (xn : Int), Value.int .i64 (yn : Int)] 49)).alloc (Obj.cells #[Value.int .i64 (xn : Int)] 3)).drew) (by (repeat (first | with_reducible exact Below.refl _ _ | with_reducible assumption | with_reducible refine below_drewN0 ?_ _ | with_reducible refine Below.drew ?_ | with_reducible refine Below.alloc ?_ ?_ _ | with_reducible refine Below.setCell ?_ ?_ _ | go_size | exact Below.size (by assumption))))
                have hS2 := (⟨hg2.cell hS1.1 (hne _ (.inl rfl)), hg2.cell hS1.2.1 (hne _ (.inr rfl)), hg2.cell hS1.2.2 (hne _ (.inr rfl))⟩ : w2.cell? ⟨w.heap.size, yn, none⟩ = some (.slice A1 l.length c1) ∧ w2.cell? ⟨wr.heap.size, 0, none⟩ = some (.int .i64 (xn : Int)) ∧ w2.cell? ⟨wr.heap.size, 1, none⟩ = some (.int .i64 (yn : Int)))
                obtain ⟨s0, s1, s2⟩ := id hS2
                have hz2 : w2.frozen? ⟨w.heap.size, yn, none⟩ = false := (World.frozen?_of_block (w := (((wr.alloc (Obj.cells #[Value.int .i64 (xn : Int), Value.int .i64 (yn : Int)] 49)).alloc (Obj.cells #[Value.int .i64 (xn : Int)] 3)).drew)) (hg2.block w.heap.size (by simp; omega) (hne _ (.inl rfl)))).trans ((Below.frozen (B := wr.heap.size) (w := wr) (p := ⟨w.heap.size, yn, none⟩) (by (repeat (first | with_reducible exact Below.refl _ _ | with_reducible assumption | with_reducible refine below_drewN0 ?_ _ | with_reducible refine Below.drew ?_ | with_reducible refine Below.alloc ?_ ?_ _ | with_reducible refine Below.setCell ?_ ?_ _ | go_size | exact Below.size (by assumption)))) hlB).trans hfz)))
         all_goals
           go_wp2_with fail
           go_meet
           have hR2 := RowsI.store (hR.out.below (w' := (((wr.alloc (Obj.cells #[Value.int .i64 (xn : Int), Value.int .i64 (yn : Int)] 49)).alloc (Obj.cells #[Value.int .i64 (xn : Int)] 3)).drew)) (B' := wr.heap.size) (by (repeat (first | with_reducible exact Below.refl _ _ | with_reducible assumption | with_reducible refine below_drewN0 ?_ _ | with_reducible refine Below.drew ?_ | with_reducible refine Below.alloc ?_ ?_ _ | with_reducible refine Below.setCell ?_ ?_ _ | go_size | exact Below.size (by assumption)))) (Nat.le_refl _)) yn HV.out (l' := l ++ [(xn : Int)]) (own_cast hown2 (Nat.le_refl _) (by simp) (by simp [icells])) hg2 hat2
           rw [rowsF_set n _ (fun v => lowL (es.take (k + 1)) v) yn yn1 _ (by (rw [lowL_one es k xn yn HXY.out, if_pos rfl, HL.out])) (fun v hv => by (rw [lowL_one es k xn yn HXY.out, if_neg (by omega)]))] at hR2
           have hb9 := Below.grown (Below.trans hb (Below.mono (B := wr.heap.size) (by (repeat (first | with_reducible exact Below.refl _ _ | with_reducible assumption | with_reducible refine below_drewN0 ?_ _ | with_reducible refine Below.drew ?_ | with_reducible refine Below.alloc ?_ ?_ _ | with_reducible refine Below.setCell ?_ ?_ _ | go_size | exact Below.size (by assumption)))) hb.size)) hg2 (by have := hb.size; go_size) (fun g hg => by have := (own_lt0 HO.out g hg).1; omega)
           exact ⟨_, rfl, hR2, hb9.setCell (p := ⟨w.heap.size, yn, none⟩) (Nat.le_refl _) _⟩
       case rest =>
         obtain ⟨vs', rfl, hR', hbc⟩ := hcut
         go_wp2_with fail
         go_roundw
         case rel => exact ⟨k + 1, vs', by omega, by go_num, hR', hbc⟩
         case measure => simp [intOf]; omega)
    · obtain rfl : k = es.length := by omega
      have hR1 : rowsF n (fun v => lowL (es.take es.length) v) = rowsF n (fun v => lowL es v ++ highL (es.take 0) v) := rowsF_congr n _ _ (fun v _ => by simp [highL])
      rw [hR1] at hR
      clear hR1
      go_wp2_with fail
      go_loopw [34] (fun i wr => ∃ (k : Nat) (vs : List Value), k ≤ es.length ∧ i = .int .i64 k ∧ Hid (RowsI wr 22 3 (w.heap.size + 1) w.heap.size vs (rowsF n (fun v => lowL es v ++ highL (es.take k) v))) ∧ Below w.heap.size w wr) (fun i _ => es.length - (intOf i).toNat)
      case atStart => exact ⟨0, _, Nat.zero_le _, rfl, hR, hb⟩
      case round =>
        clear hR hb hlt hk
        obtain ⟨k, vs, hk, rfl, hR, hb⟩ := hrel
        by_cases hlt : k < es.length
        · obtain ⟨⟨x, y⟩, hxy⟩ : ∃ e, es[k]? = some e := ⟨es[k], by simp [hlt]⟩
          obtain ⟨b, o, rfl, hbl, e1, e2⟩ := (hr.below hb).pair' k _ hxy
          obtain ⟨x0, x1, y0, y1⟩ := HOK.out _ (List.mem_of_getElem? hxy)
          dsimp only at x0 x1 y0 y1
          obtain ⟨xn, rfl⟩ : ∃ m : Nat, x = m := ⟨x.toNat, by omega⟩
          obtain ⟨yn, rfl⟩ : ∃ m : Nat, y = m := ⟨y.toNat, by omega⟩
          (have yn1 : xn < n := by omega
           have HXY := Lib.hid hxy
           clear hxy
           obtain ⟨v, A1, c1, hv, rfl, hc1, hrd, ho, hcell⟩ := hR.out.get xn _ (rowsF_get _ _ _ yn1)
           have hlow : ((fun v => lowL es v ++ highL (es.take k) v) xn).length ≤ es.length + es.length := by simp only; first | (have := lowL_length (es.take k) xn; have := List.length_take_le k es; omega) | (rw [List.length_append]; have := lowL_length es xn; have := highL_length (es.take k) xn; have := List.length_take_le k es; omega)
           have htk := List.length_take_le k es
           have hfz := hR.out.frozen xn
           have hlB := hR.out.lt
           have HV := Lib.hid hv
           have HO := Lib.hid ho
           clear hv ho hrd
           have hl0 : ∃ l, l = (fun v => lowL es v ++ highL (es.take k) v) xn := ⟨_, rfl⟩
           obtain ⟨l, hl⟩ := hl0
           simp only [← hl] at hlow hc1 hcell HV HO
           have HL := Lib.hid hl
           clear hl
           have hA1 : Below wr.heap.size wr (wr.alloc (Obj.cells #[Value.int .i64 (xn : Int), Value.int .i64 (yn : Int)] 49)) := by (repeat (first | with_reducible exact Below.refl _ _ | with_reducible assumption | with_reducible refine below_drewN0 ?_ _ | with_reducible refine Below.drew ?_ | with_reducible refine Below.alloc ?_ ?_ _ | with_reducible refine Below.setCell ?_ ?_ _ | go_size | exact Below.size (by assumption)))
           have hE := blk2 (heap_alloc_new wr (Obj.cells #[Value.int .i64 (xn : Int), Value.int .i64 (yn : Int)] 49))
           have HS := Lib.hid (fun (w' : World) (h : Below (wr.heap.size + 1) (wr.alloc (Obj.cells #[Value.int .i64 (xn : Int), Value.int .i64 (yn : Int)] 49)) w') => (⟨(h.cell (p := ⟨w.heap.size, xn, none⟩) (by dsimp only; omega)).trans ((Below.cell (p := ⟨w.heap.size, xn, none⟩) hA1 hlB).trans hcell), (h.cell (p := ⟨wr.heap.size, 0, none⟩) (by dsimp only; omega)).trans hE.1, (h.cell (p := ⟨wr.heap.size, 1, none⟩) (by dsimp only; omega)).trans hE.2.1⟩ :
             w'.cell? ⟨w.heap.size, xn, none⟩ = some (.slice A1 l.length c1) ∧ w'.cell? ⟨wr.heap.size, 0, none⟩ = some (.int .i64 (xn : Int)) ∧ w'.cell? ⟨wr.heap.size, 1, none⟩ = some (.int .i64 (yn : Int))))
           go_upto_block 3 with fail
           go_cut [5] (fun v5 wc => ∃ vs' : List Value, v5 = .slice (some ⟨w.heap.size, 0, none⟩) n n ∧ Hid (RowsI wc 22 3 (w.heap.size + 1) w.heap.size vs' (rowsF n (fun v => lowL es v ++ highL (es.take (k + 1)) v))) ∧ Below w.heap.size w wc)
           case first =>
             go_wp2_with fail
             go_region_law
               (first
                 | (refine step_app EI_int rfl (.tmp 45) (.tmp 48) rfl (w.heap.size + 1) (.slice A1 l.length c1) l.length (icells l) rfl ?_ (some ⟨_, 0, none⟩) 1 1 [.int .i64 (yn : Int)] rfl ?_ rfl ?_ ?_ ?_ ?_
                    · exact own_below0 HO.out (by (repeat (first | with_reducible exact Below.refl _ _ | with_reducible assumption | with_reducible refine below_drewN0 ?_ _ | with_reducible refine Below.drew ?_ | with_reducible refine Below.alloc ?_ ?_ _ | with_reducible refine Below.setCell ?_ ?_ _ | go_size | exact Below.size (by assumption))))
                    · exact reads_new' wr _ [_] _
                    · simp [Value.oneCell']
                    · omega
                    · go_size
                    intro v2 w2 hown2 hg2 hat2
                    obtain ⟨A2, c2, rfl, hc2, _⟩ := own_reads0 hown2
                    have hne : ∀ g, (g = w.heap.size ∨ g = wr.heap.size) → some g ≠ (Value.slice A1 l.length c1).ownBlock := fun g hg hx => by
                      have h9 := own_lt0 HO.out g hx.symm
                      omega
                    have hS1 := HS.out (((wr.alloc (Obj.cells #[Value.int .i64 (xn : Int), Value.int .i64 (yn : Int)] 49)).alloc (Obj.cells #[Value.int .i64 (yn : Int)] 3)).drew) (by (repeat (first | with_reducible exact Below.refl _ _ | with_reducible assumption | with_reducible refine below_drewN0 ?_ _ | with_reducible refine Below.drew ?_ | with_reducible refine Below.alloc ?_ ?_ _ | with_reducible refine Below.setCell ?_ ?_ _ | go_size | exact Below.size (by assumption))))
                    have hS2 := (⟨hg2.cell hS1.1 (hne _ (.inl rfl)), hg2.cell hS1.2.1 (hne _ (.inr rfl)), hg2.cell hS1.2.2 (hne _ (.inr rfl))⟩ : w2.cell? ⟨w.heap.size, xn, none⟩ = some (.slice A1 l.length c1) ∧ w2.cell? ⟨wr.heap.size, 0, none⟩ = some (.int .i64 (xn : Int)) ∧ w2.cell? ⟨wr.heap.size, 1, none⟩ = some (.int .i64 (yn : Int)))
                    obtain ⟨s0, s1, s2⟩ := id hS2
                    have hz2 : w2.frozen? ⟨w.heap.size, xn, none⟩ = false := (World.frozen?_of_block (w := (((wr.alloc (Obj.cells #[Value.int .i64 (xn : Int), Value.int .i64 (yn : Int)] 49)).alloc (Obj.cells #[Value.int .i64 (yn : Int)] 3)).drew)) (hg2.block w.heap.size (by simp; omega) (hne _ (.inl rfl)))).trans ((Below.frozen (B := wr.heap.size) (w := wr) (p := ⟨w.heap.size, xn, none⟩) (by (repeat (first | with_reducible exact Below.refl _ _ | with_reducible assumption | with_reducible refine below_drewN0 ?_ _ | with_reducible refine Below.drew ?_ | with_reducible refine Below.alloc ?_ ?_ _ | with_reducible refine Below.setCell ?_ ?_ _ | go_size | exact Below.size (by assumption)))) hlB).trans hfz)))
             all_goals
               go_wp2_with fail
               go_meet
               have hR2 := RowsI.store (hR.out.below (w' := (((wr.alloc (Obj.cells #[Value.int .i64 (xn : Int), Value.int .i64 (yn : Int)] 49)).alloc (Obj.cells #[Value.int .i64 (yn : Int)] 3)).drew)) (B' := wr.heap.size) (by (repeat (first | with_reducible exact Below.refl _ _ | with_reducible assumption | with_reducible refine below_drewN0 ?_ _ | with_reducible refine Below.drew ?_ | with_reducible refine Below.alloc ?_ ?_ _ | with_reducible refine Below.setCell ?_ ?_ _ | go_size | exact Below.size (by assumption)))) (Nat.le_refl _)) xn HV.out (l' := l ++ [(yn : Int)]) (own_cast hown2 (Nat.le_refl _) (by simp) (by simp [icells])) hg2 hat2
               rw [rowsF_set n _ (fun v => lowL es v ++ highL (es.take (k + 1)) v) xn yn1 _ (by (rw [highL_one es k xn yn HXY.out, if_pos rfl, HL.out, List.append_assoc])) (fun v hv => by (rw [highL_one es k xn yn HXY.out, if_neg (by omega)]))] at hR2
               have hb9 := Below.grown (Below.trans hb (Below.mono (B := wr.heap.size) (by (repeat (first | with_reducible exact Below.refl _ _ | with_reducible assumption | with_reducible refine below_drewN0 ?_ _ | with_reducible refine Below.drew ?_ | with_reducible refine Below.alloc ?_ ?_ _ | with_reducible refine Below.setCell ?_ ?_ _ | go_size | exact Below.size (by assumption)))) hb.size)) hg2 (by have := hb.size; go_size) (fun g hg => by have := (own_lt0 HO.out g hg).1; omega)
               exact ⟨_, rfl, hR2, hb9.setCell (p := ⟨w.heap.size, xn, none⟩) (Nat.le_refl _) _⟩
           case rest =>
             obtain ⟨vs', rfl, hR', hbc⟩ := hcut
             go_wp2_with fail
             go_roundw
             case rel => exact ⟨k + 1, vs', by omega, by go_num, hR', hbc⟩
             case measure => simp [intOf]; omega)
        · obtain rfl : k = es.length := by omega
          rw [List.take_length] at hR
          go_wp2_with fail
          go_ret
          exact ⟨_, vs, rfl, Nat.le_refl _, hR, hb⟩

end Go.Proofs.Ytgddfmfiiodgbaa
