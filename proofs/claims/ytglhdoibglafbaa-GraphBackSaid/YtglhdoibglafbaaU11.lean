/- Walks of order2CmpFunc, medianCmpFunc, medianAdjacentCmpFunc, choosePivotCmpFunc at edges. -/
import Derived.Test.YtglhdoibglafbaaU10
namespace Go.Proofs.Ytglhdoibglafbaa
open Go Go.RowKit
set_option maxRecDepth 100000
set_option linter.unusedVariables false
set_option linter.unusedSimpArgs false

/-- The row, and the count of exchanges in a block of its own. -/
def SQ (w0 : World) (g : Nat) (T : TypeId) (rest : List Value) (d : Array PE) (q : Nat) (s : Nat) (W : World) : Prop :=
  SR w0 g T rest d W ∧ W.heap[q]? = some (.cells #[.int .i64 (s : Int)] 3 (0, 0))
theorem sq_cell {w : World} {g : Nat} {v : Value} {T : TypeId} (h : w.heap[g]? = some (.cells #[v] T (0, 0))) : w.cell? ⟨g, 0, none⟩ = some v := (cell_of_row w g 0 _ T (0, 0) h).trans rfl
theorem sq_set {w : World} {g : Nat} {v u : Value} {T : TypeId} (h : w.heap[g]? = some (.cells #[v] T (0, 0))) : (w.setCell ⟨g, 0, none⟩ u).heap[g]? = some (.cells #[u] T (0, 0)) := by
  simp [World.setCell, Array.getElem?_modify, h]
theorem SQ.far {w0 W : World} {g q s : Nat} {T : TypeId} {rest : List Value} {d : Array PE} (h : SQ w0 g T rest d q s W) (hq : w0.heap.size ≤ q) (hg : g < w0.heap.size) (s' : Nat) : SQ w0 g T rest d q s' (W.setCell ⟨q, 0, none⟩ (.int .i64 (s' : Int))) := by
  refine ⟨⟨heap_far h.1.1 (by dsimp only; omega) _, h.1.2.1, h.1.2.2.1, h.1.2.2.2.1, by rw [World.size_setCell]; exact h.1.2.2.2.2.1, fun j hj hne => ?_⟩, ?_⟩
  · rw [Below.heap_setCell _ _ _ _ (by dsimp only; omega)]; exact h.1.2.2.2.2.2 j hj hne
  · exact sq_set h.2
theorem SQ.below {w0 W W' : World} {g q s : Nat} {T : TypeId} {rest : List Value} {d : Array PE} (h : SQ w0 g T rest d q s W) (hb : Below W.heap.size W W') : SQ w0 g T rest d q s W' := ⟨h.1.below hb, (hb.block q (heap_lt0 h.2)).trans h.2⟩

set_option maxHeartbeats 2000000 in
theorem order2_any (w0 wr : World) (g q : Nat) (T : TypeId) (rest : List Value) (dk : Array PE) (c a b s : Nat) (hQ : SQ w0 g T rest dk q s wr) (ha : a < dk.size) (hb : b < dk.size) (hm : dk.size ≤ 1000000) (hs : s ≤ 1000) (hq : w0.heap.size ≤ q) (hg : g < w0.heap.size) :
    Calls Try.prog 140 #[.slice (some ⟨g, 0, none⟩) dk.size c, .int .i64 a, .int .i64 b, .pointer (some ⟨q, 0, none⟩), (Value.func (.func 68) #[.agg #[]] #[])] wr fun e w' => ∃ x y s' : Nat, e = .returned (.tuple #[.int .i64 x, .int .i64 y]) ∧ ((x = a ∧ y = b) ∨ (x = b ∧ y = a)) ∧ s' ≤ s + 1 ∧ SQ w0 g T rest dk q s' w' := by
  have HQ := Lib.hid hQ
  have hS := Lib.hid hQ.1
  have aI : (a : Int) < (dk.size : Int) := by omega
  have bI : (b : Int) < (dk.size : Int) := by omega
  clear hQ
  go_enter Try.func140, Try.ntmps140
  go_wp2_with fail
  ((obtain ⟨x, hx⟩ : ∃ x : PE, x = dk[b]! := ⟨_, rfl⟩
    obtain ⟨y, hy⟩ : ∃ y : PE, y = dk[a]! := ⟨_, rfl⟩
    have x0 := hS.out.cell0 (i := b) (by omega)
    have x1 := hS.out.cell1 (i := b) (by omega)
    have y0 := hS.out.cell0 (i := a) (by omega)
    have y1 := hS.out.cell1 (i := a) (by omega)
    rw [← hx] at x0 x1
    rw [← hy] at y0 y1
    have HX := Lib.hid hx
    have HY := Lib.hid hy
    clear hx hy)
   have HC := fun W => compareE x.1 x.2 y.1 y.2 W
   have hlt : Hid (ltP dk[b]! dk[a]! = decide (cmpE x.1 x.2 y.1 y.2 < 0)) := by unfold Hid; rw [← HX.out, ← HY.out]; rfl
   have hgl := hS.out.lt
   have HK := Lib.hid (fun (W' : World) (h : Below wr.heap.size wr W') => (⟨(h.cell (p := ⟨g, (b) * 2, none⟩) hgl).trans x0, (h.cell (p := ⟨g, (b) * 2 + 1, none⟩) hgl).trans x1, (h.cell (p := ⟨g, (a) * 2, none⟩) hgl).trans y0, (h.cell (p := ⟨g, (a) * 2 + 1, none⟩) hgl).trans y1⟩ :
     W'.cell? ⟨g, (b) * 2, none⟩ = some (.int .i64 x.1) ∧ W'.cell? ⟨g, (b) * 2 + 1, none⟩ = some (.int .i64 x.2) ∧ W'.cell? ⟨g, (a) * 2, none⟩ = some (.int .i64 y.1) ∧ W'.cell? ⟨g, (a) * 2 + 1, none⟩ = some (.int .i64 y.2)))
   generalize cmpE x.1 x.2 y.1 y.2 = cp at HC hlt
   (try go_wp2_with fail)
   go_region_held3 (fun w' => w'.cell? ⟨g, (b) * 2, none⟩ = some (.int .i64 x.1) ∧ w'.cell? ⟨g, (b) * 2 + 1, none⟩ = some (.int .i64 x.2) ∧ w'.cell? ⟨g, (a) * 2, none⟩ = some (.int .i64 y.1) ∧ w'.cell? ⟨g, (a) * 2 + 1, none⟩ = some (.int .i64 y.2))
     (first | exact ⟨x0, x1, y0, y1⟩ | exact HK.out _ hbT | (refine HK.out _ ?_; (repeat (first | with_reducible exact Below.refl _ _ | with_reducible assumption | with_reducible refine below_drewN0 ?_ _ | with_reducible refine Below.drew ?_ | with_reducible refine Below.alloc ?_ ?_ _ | with_reducible refine Below.setCell ?_ ?_ _ | go_size | exact Below.size (by assumption))); done))
     (first | (go_at_call 68; go_loud (refine (HC _).mono ?_; rintro e w1 ⟨rfl, hbc⟩; have hbT : Below wr.heap.size wr w1 := Below.trans (by (repeat (first | with_reducible exact Below.refl _ _ | with_reducible assumption | with_reducible refine below_drewN0 ?_ _ | with_reducible refine Below.drew ?_ | with_reducible refine Below.alloc ?_ ?_ _ | with_reducible refine Below.setCell ?_ ?_ _ | go_size | exact Below.size (by assumption)))) (hbc.mono (by go_size)))))
   have hS1 := Lib.hid (hS.out.below hbT)
   clear HC HK x0 x1 y0 y1)
  have hQ1 := Lib.hid (HQ.out.below hbT)
  by_cases hcp : cp < 0
  · have c0 := sq_cell hQ1.out.2
    have f0 : w1.frozen? ⟨q, 0, none⟩ = false := by simp [World.frozen?, hQ1.out.2]
    go_wp2_with fail
    go_ret2
    exact ⟨b, a, s + 1, rfl, .inr ⟨rfl, rfl⟩, Nat.le_refl _, by have := hQ1.out.far hq hg (s + 1); simpa using this⟩
  · go_wp2_with fail
    go_ret2
    first | exact ⟨a, b, s, rfl, .inl ⟨rfl, rfl⟩, by omega, hQ1.out⟩ | exact ⟨a, b, rfl, .inl ⟨rfl, rfl⟩, s, by omega, hQ1.out⟩

set_option maxHeartbeats 2000000 in
theorem median_any (w0 wr : World) (g q : Nat) (T : TypeId) (rest : List Value) (dk : Array PE) (c a b d s : Nat) (hQ : SQ w0 g T rest dk q s wr) (ha : a < dk.size) (hb : b < dk.size) (hd : d < dk.size) (hm : dk.size ≤ 1000000) (hs : s ≤ 900) (hq : w0.heap.size ≤ q) (hg : g < w0.heap.size) :
    Calls Try.prog 133 #[.slice (some ⟨g, 0, none⟩) dk.size c, .int .i64 a, .int .i64 b, .int .i64 d, .pointer (some ⟨q, 0, none⟩), (Value.func (.func 68) #[.agg #[]] #[])] wr fun e w' => ∃ x s' : Nat, e = .returned (.int .i64 x) ∧ (x = a ∨ x = b ∨ x = d) ∧ s' ≤ s + 3 ∧ SQ w0 g T rest dk q s' w' := by
  have H := fun a b s W hQ ha hb hs => order2_any w0 W g q T rest dk c a b s hQ ha hb hm hs hq hg
  go_enter Try.func133, Try.ntmps133
  go_upto_region 2 with (go_at_call 140; go_loud (refine (H a b s _ hQ ha hb (by omega)).mono ?_; rintro e w1 ⟨x1, y1, s1, rfl, h1, hs1, hQ1⟩))
  go_upto_region 3 with (go_at_call 140; go_loud (refine (H y1 d s1 _ hQ1 (by omega) hd (by omega)).mono ?_; rintro e w2 ⟨x2, y2, s2, rfl, h2, hs2, hQ2⟩))
  go_wp2_with (go_at_call 140; go_loud (refine (H x1 x2 s2 _ hQ2 (by omega) (by omega) (by omega)).mono ?_; rintro e w3 ⟨x3, y3, s3, rfl, h3, hs3, hQ3⟩))
  go_ret
  exact ⟨y3, s3, rfl, by omega, by omega, hQ3⟩

set_option maxHeartbeats 2000000 in
theorem medianAdj_any (w0 wr : World) (g q : Nat) (T : TypeId) (rest : List Value) (dk : Array PE) (c a s : Nat) (hQ : SQ w0 g T rest dk q s wr) (ha : 1 ≤ a) (hb : a + 1 < dk.size) (hm : dk.size ≤ 1000000) (hs : s ≤ 900) (hq : w0.heap.size ≤ q) (hg : g < w0.heap.size) :
    Calls Try.prog 132 #[.slice (some ⟨g, 0, none⟩) dk.size c, .int .i64 a, .pointer (some ⟨q, 0, none⟩), (Value.func (.func 68) #[.agg #[]] #[])] wr fun e w' => ∃ x s' : Nat, e = .returned (.int .i64 x) ∧ (x + 1 = a ∨ x = a ∨ x = a + 1) ∧ s' ≤ s + 3 ∧ SQ w0 g T rest dk q s' w' := by
  obtain ⟨ap, rfl⟩ : ∃ p, a = p + 1 := ⟨a - 1, by omega⟩
  have H := fun W hQ => median_any w0 W g q T rest dk c ap (ap + 1) (ap + 1 + 1) s hQ (by omega) (by omega) (by omega) hm hs hq hg
  go_enter Try.func132, Try.ntmps132
  go_wp2_with (go_at_call 133; go_loud (refine (H _ hQ).mono ?_; rintro e w1 ⟨x, s1, rfl, h1, hs1, hQ1⟩))
  go_ret
  exact ⟨x, s1, rfl, by omega, hs1, hQ1⟩
end Go.Proofs.Ytglhdoibglafbaa

/- Walk of choosePivotCmpFunc at edges. -/
namespace Go.Proofs.Ytglhdoibglafbaa
open Go Go.RowKit
set_option maxRecDepth 100000
set_option linter.unusedVariables false
set_option linter.unusedSimpArgs false

def PivPost (w0 : World) (g : Nat) (T : TypeId) (rest : List Value) (dk : Array PE) (a l : Nat) (e : Ending) (w' : World) : Prop :=
  ∃ m h : Nat, e = .returned (.tuple #[.int .i64 m, .int .i64 h]) ∧ a ≤ m ∧ m < a + l ∧ h ≤ 2 ∧ SR w0 g T rest dk w'


set_option maxHeartbeats 4000000 in
theorem pivot_any (w0 wr : World) (g : Nat) (T : TypeId) (rest : List Value) (dk : Array PE) (c a l : Nat) (hS : SR w0 g T rest dk wr) (hl : 12 < l) (hb : a + l ≤ dk.size) (hm : dk.size ≤ 1000000) (hg : g < w0.heap.size) :
    Calls Try.prog 110 #[.slice (some ⟨g, 0, none⟩) dk.size c, .int .i64 a, .int .i64 ((a : Int) + (l : Int)), (Value.func (.func 68) #[.agg #[]] #[])] wr (PivPost w0 g T rest dk a l) := by
  obtain ⟨q, hq⟩ : ∃ q : Nat, q = l / 4 := ⟨_, rfl⟩
  have hq1 : (l : Int).tdiv 4 = (q : Int) := by rw [Int.tdiv_eq_ediv_of_nonneg (by omega)]; omega
  have hq2 : (l : Int) / 4 = (q : Int) := by omega
  have hq3 : l / 4 = q := hq.symm
  have hql : q * 4 ≤ l := by omega
  have hqp : 3 ≤ q := by omega
  have w1 : IntKind.i64.wrap ((a : Int) + (l : Int) - (a : Int)) = (l : Int) := by rw [IntKind.wrap_i64]; omega
  have HM := fun Q a b d s W hQ ha hb hd hs hq => median_any w0 W g Q T rest dk c a b d s hQ ha hb hd hm hs hq hg
  have HA := fun Q a s W hQ ha hb hs hq => medianAdj_any w0 W g Q T rest dk c a s hQ ha hb hm hs hq hg
  have hsz0 := hS.2.2.2.2.1
  have hQ0 : SQ w0 g T rest dk wr.heap.size 0 (wr.alloc (Obj.cells #[Value.int .i64 0] 3)) := ⟨hS.below (by (repeat (first | with_reducible exact Below.refl _ _ | with_reducible assumption | with_reducible refine below_drewN0 ?_ _ | with_reducible refine Below.drew ?_ | with_reducible refine Below.alloc ?_ ?_ _ | with_reducible refine Below.setCell ?_ ?_ _ | go_size | exact Below.size (by assumption)))), heap_alloc_new _ _⟩
  have HQ0 := Lib.hid hQ0
  clear hQ0 hq
  go_enter Try.func110, Try.ntmps110
  go_upto_region 6 with fail
  obtain ⟨i, hi, hi'⟩ : ∃ i : Nat, (a : Int) + (q : Int) = (i : Int) ∧ (i ≤ a + q ∧ a + q ≤ i) := ⟨a + q, by omega, by omega⟩
  obtain ⟨j, hj, hj'⟩ : ∃ i : Nat, (a : Int) + (q : Int) * 2 = (i : Int) ∧ (i ≤ a + q * 2 ∧ a + q * 2 ≤ i) := ⟨a + q * 2, by omega, by omega⟩
  obtain ⟨k, hk, hk'⟩ : ∃ i : Nat, (a : Int) + (q : Int) * 3 = (i : Int) ∧ (i ≤ a + q * 3 ∧ a + q * 3 ≤ i) := ⟨a + q * 3, by omega, by omega⟩
  rw [hi, hj, hk]
  clear hi hj hk hq1 hq2 hq3 w1
  have l8 : ¬ (l : Int) < 8 := by omega
  have hWs : w0.heap.size ≤ wr.heap.size := hsz0
  by_cases h50 : 50 ≤ l
  · have l50 : (50 : Int) ≤ (l : Int) := by omega
    have l50' : ¬ (l : Int) < 50 := by omega
    go_upto_region 9 with (go_at_call 132; go_loud ((with_reducible refine (HA _ i 0 _ HQ0.out (by omega) (by omega) (by omega) hWs).mono ?_); rintro e v1 ⟨x1, s1, rfl, h1, hs1, hQ1⟩))
    go_upto_region 10 with (go_at_call 132; go_loud (refine (HA _ j s1 _ hQ1 (by omega) (by omega) (by omega) hWs).mono ?_; rintro e v2 ⟨x2, s2, rfl, h2, hs2, hQ2⟩))
    go_upto_region 11 with (go_at_call 132; go_loud (refine (HA _ k s2 _ hQ2 (by omega) (by omega) (by omega) hWs).mono ?_; rintro e v3 ⟨x3, s3, rfl, h3, hs3, hQ3⟩))
    go_upto_region 12 with (go_at_call 133; go_loud (refine (HM _ x1 x2 x3 s3 _ hQ3 (by omega) (by omega) (by omega) (by omega) hWs).mono ?_; rintro e v4 ⟨m, s4, rfl, h4, hs4, hQ4⟩))
    (have c0 := sq_cell (hQ4).2
     by_cases h0 : s4 = 0
     · have e0 : ((s4 : Nat) : Int) = 0 := by omega
       rw [e0] at c0
       go_wp2_with fail
       go_ret2
       exact ⟨m, 1, rfl, by omega, by omega, by omega, (hQ4).1⟩
     · have e0 : (((s4 : Nat) : Int) == 0) = false := by simp; omega
       have e1 : ¬ (((s4 : Nat) : Int) = 0) := by omega
       by_cases h12 : s4 = 12
       · have e2 : ((s4 : Nat) : Int) = 12 := by omega
         rw [e2] at c0
         go_wp2_with fail
         go_ret2
         exact ⟨m, 2, rfl, by omega, by omega, by omega, (hQ4).1⟩
       · have e2 : (((s4 : Nat) : Int) == 12) = false := by simp; omega
         have e3 : ¬ (((s4 : Nat) : Int) = 12) := by omega
         go_wp2_with fail
         go_ret2
         exact ⟨m, 0, rfl, by omega, by omega, by omega, (hQ4).1⟩)
  · have l50 : (l : Int) < 50 := by omega
    go_upto_region 12 with (go_at_call 133; go_loud (refine (HM _ i j k 0 _ HQ0.out (by omega) (by omega) (by omega) (by omega) hWs).mono ?_; rintro e v4 ⟨m, s4, rfl, h4, hs4, hQ4⟩))
    (have c0 := sq_cell (hQ4).2
     by_cases h0 : s4 = 0
     · have e0 : ((s4 : Nat) : Int) = 0 := by omega
       rw [e0] at c0
       go_wp2_with fail
       go_ret2
       exact ⟨m, 1, rfl, by omega, by omega, by omega, (hQ4).1⟩
     · have e0 : (((s4 : Nat) : Int) == 0) = false := by simp; omega
       have e1 : ¬ (((s4 : Nat) : Int) = 0) := by omega
       by_cases h12 : s4 = 12
       · have e2 : ((s4 : Nat) : Int) = 12 := by omega
         rw [e2] at c0
         go_wp2_with fail
         go_ret2
         exact ⟨m, 2, rfl, by omega, by omega, by omega, (hQ4).1⟩
       · have e2 : (((s4 : Nat) : Int) == 12) = false := by simp; omega
         have e3 : ¬ (((s4 : Nat) : Int) = 12) := by omega
         go_wp2_with fail
         go_ret2
         exact ⟨m, 0, rfl, by omega, by omega, by omega, (hQ4).1⟩)
end Go.Proofs.Ytglhdoibglafbaa

/- Walk of reverseRangeCmpFunc at edges. -/
namespace Go.Proofs.Ytglhdoibglafbaa
open Go Go.RowKit
set_option maxRecDepth 100000
set_option linter.unusedVariables false
set_option linter.unusedSimpArgs false

set_option maxHeartbeats 4000000 in
theorem rev_any (w0 W : World) (g : Nat) (T : TypeId) (rest : List Value) (d : Array PE) (c a b : Nat) (hS : SR w0 g T rest d W) (hab : a < b) (hb : b ≤ d.size) (hm : d.size ≤ 1000000) :
    Calls Try.prog 111 #[.slice (some ⟨g, 0, none⟩) d.size c, .int .i64 a, .int .i64 b, (Value.func (.func 68) #[.agg #[]] #[])] W fun e w' => e = .returned (.tuple #[]) ∧ SR w0 g T rest (Sort.reverseRange d a b) w' := by
  have HS := Lib.hid hS
  clear hS
  obtain ⟨bp, rfl⟩ : ∃ p, b = p + 1 := ⟨b - 1, by omega⟩
  go_enter Try.func111, Try.ntmps111
  go_wp2_with fail
  go_loopw [8, 9] (fun v8 v9 wx => ∃ (i j : Nat) (dk : Array PE), v8 = .int .i64 i ∧ v9 = .int .i64 j ∧ j < d.size ∧ dk.size = d.size ∧ Hid (Sort.reverseLoop i j dk = Sort.reverseRange d a (bp + 1)) ∧ Hid (SR w0 g T rest dk wx)) (fun v8 v9 _ => (intOf v9 - intOf v8).toNat)
  case atStart => exact ⟨a, bp, d, rfl, by go_num, by omega, rfl, rfl, HS⟩
  case round =>
    clear HS
    obtain ⟨i, j, dk, rfl, rfl, hj, hsz, hR, hS⟩ := hrel
    by_cases hij : i < j
    · have iI : (i : Int) < (j : Int) := by omega
      obtain ⟨jp, rfl⟩ : ∃ p, j = p + 1 := ⟨j - 1, by omega⟩
      go_upto_region 3 with fail
      ((obtain ⟨x, hx⟩ : ∃ x : PE, x = dk[i]! := ⟨_, rfl⟩
        obtain ⟨y, hy⟩ : ∃ y : PE, y = dk[jp + 1]! := ⟨_, rfl⟩
        have x0 := hS.out.cell0 (i := i) (by omega)
        have x1 := hS.out.cell1 (i := i) (by omega)
        have y0 := hS.out.cell0 (i := jp + 1) (by omega)
        have y1 := hS.out.cell1 (i := jp + 1) (by omega)
        rw [← hx] at x0 x1
        rw [← hy] at y0 y1
        have HX := Lib.hid hx
        have HY := Lib.hid hy
        clear hx hy)
       have z1 := hS.out.frozen ((i) * 2)
       have z2 := hS.out.frozen ((i) * 2 + 1)
       have z3 := hS.out.frozen ((jp + 1) * 2)
       have z4 := hS.out.frozen ((jp + 1) * 2 + 1)
       have hw1 := hS.out.swx (i := i) (j := jp + 1) (by omega) (by omega) HX.out HY.out
       have hw2 := hS.out.swx' (i := i) (j := jp + 1) (by omega) (by omega) HX.out HY.out
       go_cut [8, 9] (fun v8 v9 wc => (v8 = Value.int .i64 (i : Int) ∧ v9 = Value.int .i64 ((jp + 1 : Nat) : Int)) ∧ Hid (SR w0 g T rest (Sort.swp dk (i) (jp + 1)) wc))
       case first =>
         go_region
         all_goals
           go_wp2_with fail
           go_meet
           refine ⟨by first | rfl | exact ⟨rfl, rfl⟩ | exact ⟨rfl, rfl, rfl⟩, ?_⟩
           unfold Hid
           first | (with_reducible exact hw1.drew) | (with_reducible exact hw2.drew) | (with_reducible exact hw1) | (with_reducible exact hw2)
       clear hw1 hw2 z1 z2 z3 z4 x0 x1 y0 y1 HX HY)
      case rest =>
        obtain ⟨⟨rfl, rfl⟩, hS2⟩ := hcut
        go_wp2_with fail
        go_roundw
        case rel => exact ⟨i + 1, jp, _, by go_num, by go_num, by omega, by rw [Sort.size_swp]; exact hsz, by unfold Hid; rw [← hR.out, Sort.reverseLoop.eq_1 i (jp + 1) dk, if_pos hij]; rfl, hS2⟩
        case measure => simp [intOf]; omega
    · go_wp2_with fail
      go_end0
      refine ⟨rfl, ?_⟩
      rw [← hR.out, Sort.reverseLoop.eq_1 i j dk, if_neg hij]
      exact hS.out
end Go.Proofs.Ytglhdoibglafbaa

/- Walks of siftDownCmpFunc, heapSortCmpFunc at edges. -/
namespace Go.Proofs.Ytglhdoibglafbaa
open Go Go.RowKit
set_option maxRecDepth 100000
set_option linter.unusedVariables false
set_option linter.unusedSimpArgs false

theorem sift_stop (hi first root : Nat) (d : Array PE) (h : hi ≤ 2 * root + 1) : Sort.siftDown ltP hi first root d = d := by
  rw [Sort.siftDown.eq_1, dif_pos h]
/-- The child that is looked at. -/
def chB (hi first root : Nat) (d : Array PE) : Nat := if 2 * root + 1 + 1 < hi && ltP d[first + (2 * root + 1)]! d[first + (2 * root + 1) + 1]! then 2 * root + 2 else 2 * root + 1
theorem chB_lt (hi first root : Nat) (d : Array PE) (h : 2 * root + 1 < hi) : chB hi first root d < hi ∧ root < chB hi first root d := by
  unfold chB
  split
  · rename_i h2; simp at h2; omega
  · omega
theorem sift_go (hi first root : Nat) (d : Array PE) (h : 2 * root + 1 < hi) :
    Sort.siftDown ltP hi first root d = if (!ltP d[first + root]! d[first + chB hi first root d]!) = true then d else Sort.siftDown ltP hi first (chB hi first root d) (Sort.swp d (first + root) (first + chB hi first root d)) := by
  rw [Sort.siftDown.eq_1, dif_neg (by omega)]
  unfold chB
  split
  · rename_i h2
    have h3 : 2 * root + 2 < hi := by simp at h2; omega
    rw [dif_pos h3]
  · rfl


set_option maxHeartbeats 4000000 in
theorem sift_any (w0 W : World) (g : Nat) (T : TypeId) (rest : List Value) (d : Array PE) (c lo hi first : Nat) (hS : SR w0 g T rest d W) (hb : first + hi ≤ d.size) (hm : d.size ≤ 1000000) (hlo : lo ≤ 2000000) :
    Calls Try.prog 129 #[.slice (some ⟨g, 0, none⟩) d.size c, .int .i64 lo, .int .i64 hi, .int .i64 first, (Value.func (.func 68) #[.agg #[]] #[])] W fun e w' => e = .returned (.tuple #[]) ∧ SR w0 g T rest (Sort.siftDown ltP hi first lo d) w' := by
  have HS := Lib.hid hS
  clear hS
  go_enter Try.func129, Try.ntmps129
  go_wp2_with fail
  go_loopw [10] (fun v wx => ∃ (root : Nat) (dk : Array PE), v = .int .i64 root ∧ root ≤ 2000000 ∧ dk.size = d.size ∧ Hid (Sort.siftDown ltP hi first root dk = Sort.siftDown ltP hi first lo d) ∧ Hid (SR w0 g T rest dk wx)) (fun v _ => hi - (intOf v).toNat)
  case atStart => exact ⟨lo, d, rfl, hlo, rfl, rfl, HS⟩
  case round =>
    clear HS
    obtain ⟨root, dk, rfl, hr, hsz, hE, hS⟩ := hrel
    go_upto_region 2 with fail
    obtain ⟨c1, hc, hc1, hc2⟩ : ∃ c1 : Nat, 2 * (root : Int) + 1 = (c1 : Int) ∧ c1 ≤ 2 * root + 1 ∧ 2 * root + 1 ≤ c1 := ⟨2 * root + 1, by omega, by omega, by omega⟩
    rw [hc]
    clear hc
    by_cases hst : hi ≤ c1
    · have hF := Lib.hid ((sift_stop hi first root dk (by omega)).symm.trans hE.out)
      go_wp2_with fail
      go_end0
      refine ⟨rfl, ?_⟩
      rw [← hF.out]
      exact hS.out
    · have cI : (c1 : Int) < (hi : Int) := by omega
      have hgo := Lib.hid (sift_go hi first root dk (by omega))
      have hcl := chB_lt hi first root dk (by omega)
      go_upto_region 3 with fail
      go_cut [10, 11, 40] (fun v10 v11 v40 wc => ∃ bb : Bool, v10 = .int .i64 root ∧ v11 = .int .i64 c1 ∧ v40 = .bool bb ∧ (c1 + (if bb = true then 1 else 0) ≤ chB hi first root dk ∧ chB hi first root dk ≤ c1 + (if bb = true then 1 else 0)) ∧ Hid (SR w0 g T rest dk wc))
      case first =>
        by_cases h2 : c1 + 1 < hi
        · have g1 : decide ((c1 : Int) + 1 < (hi : Int)) = true := decide_eq_true (by omega)
          have g2 : decide (c1 + 1 < hi) = true := decide_eq_true h2
          have w1 : IntKind.i64.wrap ((c1 : Int) + 1) = (c1 : Int) + 1 := by rw [IntKind.wrap_i64]; omega
          (have : (0 : Int) ≤ (first : Int) + (c1 : Int) := by omega
           have : ((first : Int) + (c1 : Int) : Int).toNat = first + c1 := by omega
           have : ((first : Int) + (c1 : Int) : Int) < (d.size : Int) := by omega
           have : IntKind.i64.wrap ((first : Int) + (c1 : Int) : Int) = (first : Int) + (c1 : Int) := by rw [IntKind.wrap_i64]; omega)
          (have : (0 : Int) ≤ (first : Int) + (c1 : Int) + 1 := by omega
           have : ((first : Int) + (c1 : Int) + 1 : Int).toNat = first + c1 + 1 := by omega
           have : ((first : Int) + (c1 : Int) + 1 : Int) < (d.size : Int) := by omega
           have : IntKind.i64.wrap ((first : Int) + (c1 : Int) + 1 : Int) = (first : Int) + (c1 : Int) + 1 := by rw [IntKind.wrap_i64]; omega)
          ((obtain ⟨x, hx⟩ : ∃ x : PE, x = dk[first + c1]! := ⟨_, rfl⟩
            obtain ⟨y, hy⟩ : ∃ y : PE, y = dk[first + c1 + 1]! := ⟨_, rfl⟩
            have x0 := hS.out.cell0 (i := first + c1) (by omega)
            have x1 := hS.out.cell1 (i := first + c1) (by omega)
            have y0 := hS.out.cell0 (i := first + c1 + 1) (by omega)
            have y1 := hS.out.cell1 (i := first + c1 + 1) (by omega)
            rw [← hx] at x0 x1
            rw [← hy] at y0 y1
            have HX := Lib.hid hx
            have HY := Lib.hid hy
            clear hx hy)
           have HC := fun W => compareE x.1 x.2 y.1 y.2 W
           have hlt : Hid (ltP dk[first + c1]! dk[first + c1 + 1]! = decide (cmpE x.1 x.2 y.1 y.2 < 0)) := by unfold Hid; rw [← HX.out, ← HY.out]; rfl
           have hgl := hS.out.lt
           have HK := Lib.hid (fun (W' : World) (h : Below wr.heap.size wr W') => (⟨(h.cell (p := ⟨g, (first + c1) * 2, none⟩) hgl).trans x0, (h.cell (p := ⟨g, (first + c1) * 2 + 1, none⟩) hgl).trans x1, (h.cell (p := ⟨g, (first + c1 + 1) * 2, none⟩) hgl).trans y0, (h.cell (p := ⟨g, (first + c1 + 1) * 2 + 1, none⟩) hgl).trans y1⟩ :
             W'.cell? ⟨g, (first + c1) * 2, none⟩ = some (.int .i64 x.1) ∧ W'.cell? ⟨g, (first + c1) * 2 + 1, none⟩ = some (.int .i64 x.2) ∧ W'.cell? ⟨g, (first + c1 + 1) * 2, none⟩ = some (.int .i64 y.1) ∧ W'.cell? ⟨g, (first + c1 + 1) * 2 + 1, none⟩ = some (.int .i64 y.2)))
           generalize cmpE x.1 x.2 y.1 y.2 = cp at HC hlt
           (try go_wp2_with fail)
           go_region_held3 (fun w' => w'.cell? ⟨g, (first + c1) * 2, none⟩ = some (.int .i64 x.1) ∧ w'.cell? ⟨g, (first + c1) * 2 + 1, none⟩ = some (.int .i64 x.2) ∧ w'.cell? ⟨g, (first + c1 + 1) * 2, none⟩ = some (.int .i64 y.1) ∧ w'.cell? ⟨g, (first + c1 + 1) * 2 + 1, none⟩ = some (.int .i64 y.2))
             (first | exact ⟨x0, x1, y0, y1⟩ | exact HK.out _ hbT | (refine HK.out _ ?_; (repeat (first | with_reducible exact Below.refl _ _ | with_reducible assumption | with_reducible refine below_drewN0 ?_ _ | with_reducible refine Below.drew ?_ | with_reducible refine Below.alloc ?_ ?_ _ | with_reducible refine Below.setCell ?_ ?_ _ | go_size | exact Below.size (by assumption))); done))
             (first | (go_at_call 68; go_loud (refine (HC _).mono ?_; rintro e w1 ⟨rfl, hbc⟩; have hbT : Below wr.heap.size wr w1 := Below.trans (by (repeat (first | with_reducible exact Below.refl _ _ | with_reducible assumption | with_reducible refine below_drewN0 ?_ _ | with_reducible refine Below.drew ?_ | with_reducible refine Below.alloc ?_ ?_ _ | with_reducible refine Below.setCell ?_ ?_ _ | go_size | exact Below.size (by assumption)))) (hbc.mono (by go_size)))))
           have hS1 := Lib.hid (hS.out.below hbT)
           clear HC HK x0 x1 y0 y1)
          have e1 : 2 * root + 1 = c1 := by omega
          by_cases hcp : cp < 0
          · have hch : chB hi first root dk = c1 + 1 := by
              unfold chB
              rw [e1, hlt.out, decide_eq_true hcp, if_pos (by simp; omega)]; omega
            go_wp2_with fail
            go_meet
            exact ⟨true, rfl, rfl, by simp [hcp], by simp; omega, hS1⟩
          · have hch : chB hi first root dk = c1 := by
              unfold chB
              rw [e1, hlt.out, decide_eq_false hcp, if_neg (by simp)]
            go_wp2_with fail
            go_meet
            exact ⟨false, rfl, rfl, by simp [hcp], by simp; omega, hS1⟩
        · have g1 : decide ((c1 : Int) + 1 < (hi : Int)) = false := decide_eq_false (by omega)
          have g2 : decide (c1 + 1 < hi) = false := decide_eq_false h2
          have e1 : 2 * root + 1 = c1 := by omega
          have hch : chB hi first root dk = c1 := by
            unfold chB
            rw [e1, if_neg (by simp; omega)]
          have w1 : IntKind.i64.wrap ((c1 : Int) + 1) = (c1 : Int) + 1 := by rw [IntKind.wrap_i64]; omega
          go_wp2_with fail
          go_quiet (fail)
          go_wp2_with fail
          go_meet
          exact ⟨false, rfl, rfl, rfl, by simp; omega, hS⟩
      case rest =>
        clear hS
        obtain ⟨bb, rfl, rfl, rfl, hd, hS⟩ := hcut
        obtain ⟨wr, rfl⟩ : ∃ z, z = wc := ⟨_, rfl⟩
        cases bb
        · simp only [Bool.false_eq_true, if_false, Nat.add_zero] at hd
          obtain ⟨ch, hch⟩ : ∃ ch, ch = c1 := ⟨_, rfl⟩
          rw [← hch] at hd ⊢
          clear hch
          go_upto_region 5 with fail
          (obtain rfl : ch = chB hi first root dk := by omega
           generalize chB hi first root dk = ch at *
           (have : (0 : Int) ≤ (first : Int) + (root : Int) := by omega
            have : ((first : Int) + (root : Int) : Int).toNat = first + root := by omega
            have : ((first : Int) + (root : Int) : Int) < (d.size : Int) := by omega
            have : IntKind.i64.wrap ((first : Int) + (root : Int) : Int) = (first : Int) + (root : Int) := by rw [IntKind.wrap_i64]; omega)
           (have : (0 : Int) ≤ (first : Int) + (ch : Int) := by omega
            have : ((first : Int) + (ch : Int) : Int).toNat = first + ch := by omega
            have : ((first : Int) + (ch : Int) : Int) < (d.size : Int) := by omega
            have : IntKind.i64.wrap ((first : Int) + (ch : Int) : Int) = (first : Int) + (ch : Int) := by rw [IntKind.wrap_i64]; omega)
           ((obtain ⟨x, hx⟩ : ∃ x : PE, x = dk[first + root]! := ⟨_, rfl⟩
             obtain ⟨y, hy⟩ : ∃ y : PE, y = dk[first + ch]! := ⟨_, rfl⟩
             have x0 := hS.out.cell0 (i := first + root) (by omega)
             have x1 := hS.out.cell1 (i := first + root) (by omega)
             have y0 := hS.out.cell0 (i := first + ch) (by omega)
             have y1 := hS.out.cell1 (i := first + ch) (by omega)
             rw [← hx] at x0 x1
             rw [← hy] at y0 y1
             have HX := Lib.hid hx
             have HY := Lib.hid hy
             clear hx hy)
            have HC := fun W => compareE x.1 x.2 y.1 y.2 W
            have hlt : Hid (ltP dk[first + root]! dk[first + ch]! = decide (cmpE x.1 x.2 y.1 y.2 < 0)) := by unfold Hid; rw [← HX.out, ← HY.out]; rfl
            have hgl := hS.out.lt
            have HK := Lib.hid (fun (W' : World) (h : Below wr.heap.size wr W') => (⟨(h.cell (p := ⟨g, (first + root) * 2, none⟩) hgl).trans x0, (h.cell (p := ⟨g, (first + root) * 2 + 1, none⟩) hgl).trans x1, (h.cell (p := ⟨g, (first + ch) * 2, none⟩) hgl).trans y0, (h.cell (p := ⟨g, (first + ch) * 2 + 1, none⟩) hgl).trans y1⟩ :
              W'.cell? ⟨g, (first + root) * 2, none⟩ = some (.int .i64 x.1) ∧ W'.cell? ⟨g, (first + root) * 2 + 1, none⟩ = some (.int .i64 x.2) ∧ W'.cell? ⟨g, (first + ch) * 2, none⟩ = some (.int .i64 y.1) ∧ W'.cell? ⟨g, (first + ch) * 2 + 1, none⟩ = some (.int .i64 y.2)))
            generalize cmpE x.1 x.2 y.1 y.2 = cp at HC hlt
            (try go_wp2_with fail)
            go_region_held3 (fun w' => w'.cell? ⟨g, (first + root) * 2, none⟩ = some (.int .i64 x.1) ∧ w'.cell? ⟨g, (first + root) * 2 + 1, none⟩ = some (.int .i64 x.2) ∧ w'.cell? ⟨g, (first + ch) * 2, none⟩ = some (.int .i64 y.1) ∧ w'.cell? ⟨g, (first + ch) * 2 + 1, none⟩ = some (.int .i64 y.2))
              (first | exact ⟨x0, x1, y0, y1⟩ | exact HK.out _ hbT | (refine HK.out _ ?_; (repeat (first | with_reducible exact Below.refl _ _ | with_reducible assumption | with_reducible refine below_drewN0 ?_ _ | with_reducible refine Below.drew ?_ | with_reducible refine Below.alloc ?_ ?_ _ | with_reducible refine Below.setCell ?_ ?_ _ | go_size | exact Below.size (by assumption))); done))
              (first | (go_at_call 68; go_loud (refine (HC _).mono ?_; rintro e w1 ⟨rfl, hbc⟩; have hbT : Below wr.heap.size wr w1 := Below.trans (by (repeat (first | with_reducible exact Below.refl _ _ | with_reducible assumption | with_reducible refine below_drewN0 ?_ _ | with_reducible refine Below.drew ?_ | with_reducible refine Below.alloc ?_ ?_ _ | with_reducible refine Below.setCell ?_ ?_ _ | go_size | exact Below.size (by assumption)))) (hbc.mono (by go_size)))))
            have hS1 := Lib.hid (hS.out.below hbT)
            clear HC HK x0 x1 y0 y1)
           by_cases hcp : cp < 0
           · have hF : Hid (Sort.siftDown ltP hi first ch (Sort.swp dk (first + root) (first + ch)) = Sort.siftDown ltP hi first lo d) := by
               unfold Hid
               rw [← hE.out, hgo.out, hlt.out, decide_eq_true hcp, if_neg (by simp)]
             have n1 : ¬ 0 ≤ cp := by omega
             have n2 : decide (0 ≤ cp) = false := decide_eq_false n1
             have n3 : decide (cp < 0) = true := decide_eq_true hcp
             have n4 : (!decide (cp < 0)) = false := by simp [hcp]
             rw [n4]
             go_upto_region 6 with fail
             clear hS
             have hS := hS1
             (have z1 := hS.out.frozen ((first + root) * 2)
              have z2 := hS.out.frozen ((first + root) * 2 + 1)
              have z3 := hS.out.frozen ((first + ch) * 2)
              have z4 := hS.out.frozen ((first + ch) * 2 + 1)
              have hw1 := hS.out.swx (i := first + root) (j := first + ch) (by omega) (by omega) HX.out HY.out
              have hw2 := hS.out.swx' (i := first + root) (j := first + ch) (by omega) (by omega) HX.out HY.out
              go_cut [10, 11] (fun v10 v11 wc => (v10 = Value.int .i64 (root : Int) ∧ v11 = Value.int .i64 (ch : Int)) ∧ Hid (SR w0 g T rest (Sort.swp dk (first + root) (first + ch)) wc))
              case first =>
                go_region
                all_goals
                  go_wp2_with fail
                  go_meet
                  refine ⟨by first | rfl | exact ⟨rfl, rfl⟩ | exact ⟨rfl, rfl, rfl⟩, ?_⟩
                  unfold Hid
                  first | (with_reducible exact hw1.drew) | (with_reducible exact hw2.drew) | (with_reducible exact hw1) | (with_reducible exact hw2)
              clear hw1 hw2 z1 z2 z3 z4)
             case rest =>
               obtain ⟨⟨rfl, rfl⟩, hS2⟩ := hcut
               go_wp2_with fail
               go_roundw
               case rel => exact ⟨ch, _, rfl, by omega, by rw [Sort.size_swp]; exact hsz, hF, hS2⟩
               case measure => first | (simp [intOf]; done) | (simp [intOf]; omega)
           · have n1 : 0 ≤ cp := by omega
             have n2 : decide (0 ≤ cp) = true := decide_eq_true n1
             have n3 : decide (cp < 0) = false := decide_eq_false hcp
             have n4 : (!decide (cp < 0)) = true := by simp [hcp]
             rw [n4]
             have hF : Hid (dk = Sort.siftDown ltP hi first lo d) := by
               unfold Hid
               rw [← hE.out, hgo.out, hlt.out, decide_eq_false hcp, if_pos (by simp)]
             go_wp2_with fail
             first | go_end0 | (refine bodyPost_ret (results_none rfl _ _ _) rfl ?_) | (trace_state; sorry)
             refine ⟨rfl, ?_⟩
             rw [← hF.out]
             exact hS1.out)
        · simp only [if_true] at hd
          have w1 : IntKind.i64.wrap ((c1 : Int) + 1) = (c1 : Int) + 1 := by rw [IntKind.wrap_i64]; omega
          go_upto_region 5 with fail
          obtain ⟨ch, hch, hch1, hch2⟩ : ∃ ch : Nat, (c1 : Int) + 1 = (ch : Int) ∧ ch ≤ c1 + 1 ∧ c1 + 1 ≤ ch := ⟨c1 + 1, by omega, by omega, by omega⟩
          rw [hch]
          clear hch
          (obtain rfl : ch = chB hi first root dk := by omega
           generalize chB hi first root dk = ch at *
           (have : (0 : Int) ≤ (first : Int) + (root : Int) := by omega
            have : ((first : Int) + (root : Int) : Int).toNat = first + root := by omega
            have : ((first : Int) + (root : Int) : Int) < (d.size : Int) := by omega
            have : IntKind.i64.wrap ((first : Int) + (root : Int) : Int) = (first : Int) + (root : Int) := by rw [IntKind.wrap_i64]; omega)
           (have : (0 : Int) ≤ (first : Int) + (ch : Int) := by omega
            have : ((first : Int) + (ch : Int) : Int).toNat = first + ch := by omega
            have : ((first : Int) + (ch : Int) : Int) < (d.size : Int) := by omega
            have : IntKind.i64.wrap ((first : Int) + (ch : Int) : Int) = (first : Int) + (ch : Int) := by rw [IntKind.wrap_i64]; omega)
           ((obtain ⟨x, hx⟩ : ∃ x : PE, x = dk[first + root]! := ⟨_, rfl⟩
             obtain ⟨y, hy⟩ : ∃ y : PE, y = dk[first + ch]! := ⟨_, rfl⟩
             have x0 := hS.out.cell0 (i := first + root) (by omega)
             have x1 := hS.out.cell1 (i := first + root) (by omega)
             have y0 := hS.out.cell0 (i := first + ch) (by omega)
             have y1 := hS.out.cell1 (i := first + ch) (by omega)
             rw [← hx] at x0 x1
             rw [← hy] at y0 y1
             have HX := Lib.hid hx
             have HY := Lib.hid hy
             clear hx hy)
            have HC := fun W => compareE x.1 x.2 y.1 y.2 W
            have hlt : Hid (ltP dk[first + root]! dk[first + ch]! = decide (cmpE x.1 x.2 y.1 y.2 < 0)) := by unfold Hid; rw [← HX.out, ← HY.out]; rfl
            have hgl := hS.out.lt
            have HK := Lib.hid (fun (W' : World) (h : Below wr.heap.size wr W') => (⟨(h.cell (p := ⟨g, (first + root) * 2, none⟩) hgl).trans x0, (h.cell (p := ⟨g, (first + root) * 2 + 1, none⟩) hgl).trans x1, (h.cell (p := ⟨g, (first + ch) * 2, none⟩) hgl).trans y0, (h.cell (p := ⟨g, (first + ch) * 2 + 1, none⟩) hgl).trans y1⟩ :
              W'.cell? ⟨g, (first + root) * 2, none⟩ = some (.int .i64 x.1) ∧ W'.cell? ⟨g, (first + root) * 2 + 1, none⟩ = some (.int .i64 x.2) ∧ W'.cell? ⟨g, (first + ch) * 2, none⟩ = some (.int .i64 y.1) ∧ W'.cell? ⟨g, (first + ch) * 2 + 1, none⟩ = some (.int .i64 y.2)))
            generalize cmpE x.1 x.2 y.1 y.2 = cp at HC hlt
            (try go_wp2_with fail)
            go_region_held3 (fun w' => w'.cell? ⟨g, (first + root) * 2, none⟩ = some (.int .i64 x.1) ∧ w'.cell? ⟨g, (first + root) * 2 + 1, none⟩ = some (.int .i64 x.2) ∧ w'.cell? ⟨g, (first + ch) * 2, none⟩ = some (.int .i64 y.1) ∧ w'.cell? ⟨g, (first + ch) * 2 + 1, none⟩ = some (.int .i64 y.2))
              (first | exact ⟨x0, x1, y0, y1⟩ | exact HK.out _ hbT | (refine HK.out _ ?_; (repeat (first | with_reducible exact Below.refl _ _ | with_reducible assumption | with_reducible refine below_drewN0 ?_ _ | with_reducible refine Below.drew ?_ | with_reducible refine Below.alloc ?_ ?_ _ | with_reducible refine Below.setCell ?_ ?_ _ | go_size | exact Below.size (by assumption))); done))
              (first | (go_at_call 68; go_loud (refine (HC _).mono ?_; rintro e w1 ⟨rfl, hbc⟩; have hbT : Below wr.heap.size wr w1 := Below.trans (by (repeat (first | with_reducible exact Below.refl _ _ | with_reducible assumption | with_reducible refine below_drewN0 ?_ _ | with_reducible refine Below.drew ?_ | with_reducible refine Below.alloc ?_ ?_ _ | with_reducible refine Below.setCell ?_ ?_ _ | go_size | exact Below.size (by assumption)))) (hbc.mono (by go_size)))))
            have hS1 := Lib.hid (hS.out.below hbT)
            clear HC HK x0 x1 y0 y1)
           by_cases hcp : cp < 0
           · have hF : Hid (Sort.siftDown ltP hi first ch (Sort.swp dk (first + root) (first + ch)) = Sort.siftDown ltP hi first lo d) := by
               unfold Hid
               rw [← hE.out, hgo.out, hlt.out, decide_eq_true hcp, if_neg (by simp)]
             have n1 : ¬ 0 ≤ cp := by omega
             have n2 : decide (0 ≤ cp) = false := decide_eq_false n1
             have n3 : decide (cp < 0) = true := decide_eq_true hcp
             have n4 : (!decide (cp < 0)) = false := by simp [hcp]
             rw [n4]
             go_upto_region 6 with fail
             clear hS
             have hS := hS1
             (have z1 := hS.out.frozen ((first + root) * 2)
              have z2 := hS.out.frozen ((first + root) * 2 + 1)
              have z3 := hS.out.frozen ((first + ch) * 2)
              have z4 := hS.out.frozen ((first + ch) * 2 + 1)
              have hw1 := hS.out.swx (i := first + root) (j := first + ch) (by omega) (by omega) HX.out HY.out
              have hw2 := hS.out.swx' (i := first + root) (j := first + ch) (by omega) (by omega) HX.out HY.out
              go_cut [10, 11] (fun v10 v11 wc => (v10 = Value.int .i64 (root : Int) ∧ v11 = Value.int .i64 (ch : Int)) ∧ Hid (SR w0 g T rest (Sort.swp dk (first + root) (first + ch)) wc))
              case first =>
                go_region
                all_goals
                  go_wp2_with fail
                  go_meet
                  refine ⟨by first | rfl | exact ⟨rfl, rfl⟩ | exact ⟨rfl, rfl, rfl⟩, ?_⟩
                  unfold Hid
                  first | (with_reducible exact hw1.drew) | (with_reducible exact hw2.drew) | (with_reducible exact hw1) | (with_reducible exact hw2)
              clear hw1 hw2 z1 z2 z3 z4)
             case rest =>
               obtain ⟨⟨rfl, rfl⟩, hS2⟩ := hcut
               go_wp2_with fail
               go_roundw
               case rel => exact ⟨ch, _, rfl, by omega, by rw [Sort.size_swp]; exact hsz, hF, hS2⟩
               case measure => first | (simp [intOf]; done) | (simp [intOf]; omega)
           · have n1 : 0 ≤ cp := by omega
             have n2 : decide (0 ≤ cp) = true := decide_eq_true n1
             have n3 : decide (cp < 0) = false := decide_eq_false hcp
             have n4 : (!decide (cp < 0)) = true := by simp [hcp]
             rw [n4]
             have hF : Hid (dk = Sort.siftDown ltP hi first lo d) := by
               unfold Hid
               rw [← hE.out, hgo.out, hlt.out, decide_eq_false hcp, if_pos (by simp)]
             go_wp2_with fail
             first | go_end0 | (refine bodyPost_ret (results_none rfl _ _ _) rfl ?_) | (trace_state; sorry)
             refine ⟨rfl, ?_⟩
             rw [← hF.out]
             exact hS1.out)
end Go.Proofs.Ytglhdoibglafbaa

/- Walk of heapSortCmpFunc at edges. -/
namespace Go.Proofs.Ytglhdoibglafbaa
open Go Go.RowKit
set_option maxRecDepth 100000
set_option linter.unusedVariables false
set_option linter.unusedSimpArgs false

theorem sift_size (hi first : Nat) : ∀ (n root : Nat) (d : Array PE), hi - root ≤ n → (Sort.siftDown ltP hi first root d).size = d.size := by
  intro n
  induction n with
  | zero => intro root d h; rw [sift_stop hi first root d (by omega)]
  | succ n ih =>
    intro root d h
    by_cases h1 : hi ≤ 2 * root + 1
    · rw [sift_stop hi first root d h1]
    · have h2 := chB_lt hi first root d (by omega)
      rw [sift_go hi first root d (by omega)]
      split
      · rfl
      · rw [ih _ _ (by omega), Sort.size_swp]

set_option maxHeartbeats 4000000 in
theorem heap_any (w0 W : World) (g : Nat) (T : TypeId) (rest : List Value) (d : Array PE) (c a l : Nat) (hS : SR w0 g T rest d W) (hl : 12 < l) (hb : a + l ≤ d.size) (hm : d.size ≤ 1000000) :
    Calls Try.prog 108 #[.slice (some ⟨g, 0, none⟩) d.size c, .int .i64 a, .int .i64 ((a : Int) + (l : Int)), (Value.func (.func 68) #[.agg #[]] #[])] W fun e w' => e = .returned (.tuple #[]) ∧ SR w0 g T rest (Sort.heapSort ltP d a (a + l)) w' := by
  have HS := Lib.hid hS
  clear hS
  have hq1 : ((l : Int) - 1).tdiv 2 = (((l - 1) / 2 + 1 : Nat) : Int) - 1 := by rw [Int.tdiv_eq_ediv_of_nonneg (by omega)]; omega
  have hq2 : ((l : Int) - 1) / 2 = (((l - 1) / 2 + 1 : Nat) : Int) - 1 := by omega
  obtain ⟨k0, hk0⟩ : ∃ k : Nat, (l - 1) / 2 + 1 = k := ⟨_, rfl⟩
  rw [hk0] at hq1 hq2
  have hk1 : k0 ≤ l := by omega
  have hH : Hid (Sort.heapPop ltP a l (Sort.heapBuild ltP l a k0 d) = Sort.heapSort ltP d a (a + l)) := by
    unfold Hid Sort.heapSort
    rw [show a + l - a = l by omega, hk0]
  clear hk0
  have w1 : IntKind.i64.wrap ((a : Int) + (l : Int) - (a : Int)) = (l : Int) := by rw [IntKind.wrap_i64]; omega
  have w2 : IntKind.i64.wrap ((l : Int) - 1) = (l : Int) - 1 := by rw [IntKind.wrap_i64]; omega
  have w3 : IntKind.i64.wrap ((k0 : Int) - 1) = (k0 : Int) - 1 := by rw [IntKind.wrap_i64]; omega
  have HD := fun dk (hsz : dk.size = d.size) lo hi W hS h1 h2 => sift_any w0 W g T rest dk c lo hi a hS (by rw [hsz]; exact h1) (by rw [hsz]; exact hm) h2
  go_enter Try.func108, Try.ntmps108
  go_upto_region 4 with fail
  clear hq1 hq2 w1
  go_loopw [11] (fun v wx => ∃ (k : Nat) (dk : Array PE), v = .int .i64 ((k : Int) - 1) ∧ k ≤ l ∧ dk.size = d.size ∧ Hid (Sort.heapBuild ltP l a k dk = Sort.heapBuild ltP l a k0 d) ∧ Hid (SR w0 g T rest dk wx)) (fun v _ => (intOf v + 1).toNat)
  case atStart => exact ⟨k0, d, rfl, hk1, rfl, rfl, HS⟩
  case round =>
    clear HS
    obtain ⟨k, dk, rfl, hk, hsz, hE, hS⟩ := hrel
    cases k with
    | succ kp =>
      rw [show ((kp + 1 : Nat) : Int) - 1 = (kp : Int) by omega]
      have HDk := fun W h => HD dk hsz kp l W h hb (by omega)
      rw [hsz] at HDk
      have hsz2 := sift_size l a (l - kp) kp dk (Nat.le_refl _)
      go_wp2_with (go_at_call 129; go_loud (refine (HDk _ hS.out).mono ?_; rintro e w1 ⟨rfl, hS1⟩))
      go_roundw
      case rel => exact ⟨kp, _, by go_num, by omega, by rw [hsz2]; exact hsz, hE.out, hS1⟩
      case measure => first | (simp [intOf]; done) | (simp [intOf]; omega)
    | zero =>
      have hE2 : Hid (Sort.heapPop ltP a l dk = Sort.heapSort ltP d a (a + l)) := by
        unfold Hid
        rw [← hH.out, ← hE.out]; rfl
      rw [show ((0 : Nat) : Int) - 1 = -1 from rfl]
      go_upto_region 8 with fail
      go_loopw [12] (fun v wx => ∃ (k : Nat) (dk : Array PE), v = .int .i64 ((k : Int) - 1) ∧ k ≤ l ∧ dk.size = d.size ∧ Hid (Sort.heapPop ltP a k dk = Sort.heapSort ltP d a (a + l)) ∧ Hid (SR w0 g T rest dk wx)) (fun v _ => (intOf v + 1).toNat)
      case atStart => exact ⟨l, dk, by go_num, Nat.le_refl _, hsz, hE2, hS⟩
      case round =>
        clear hS hE2 hE
        obtain ⟨k, dk, rfl, hk, hsz, hE, hS⟩ := hrel
        cases k with
        | succ kp =>
          rw [show ((kp + 1 : Nat) : Int) - 1 = (kp : Int) by omega]
          (have : (0 : Int) ≤ (a : Int) := by omega
           have : ((a : Int) : Int).toNat = a := by omega
           have : ((a : Int) : Int) < (d.size : Int) := by omega
           have : IntKind.i64.wrap ((a : Int) : Int) = (a : Int) := by rw [IntKind.wrap_i64]; omega)
          (have : (0 : Int) ≤ (a : Int) + (kp : Int) := by omega
           have : ((a : Int) + (kp : Int) : Int).toNat = a + kp := by omega
           have : ((a : Int) + (kp : Int) : Int) < (d.size : Int) := by omega
           have : IntKind.i64.wrap ((a : Int) + (kp : Int) : Int) = (a : Int) + (kp : Int) := by rw [IntKind.wrap_i64]; omega)
          go_upto_region 10 with fail
          ((obtain ⟨x, hx⟩ : ∃ x : PE, x = dk[a]! := ⟨_, rfl⟩
            obtain ⟨y, hy⟩ : ∃ y : PE, y = dk[a + kp]! := ⟨_, rfl⟩
            have x0 := hS.out.cell0 (i := a) (by omega)
            have x1 := hS.out.cell1 (i := a) (by omega)
            have y0 := hS.out.cell0 (i := a + kp) (by omega)
            have y1 := hS.out.cell1 (i := a + kp) (by omega)
            rw [← hx] at x0 x1
            rw [← hy] at y0 y1
            have HX := Lib.hid hx
            have HY := Lib.hid hy
            clear hx hy)
           have z1 := hS.out.frozen ((a) * 2)
           have z2 := hS.out.frozen ((a) * 2 + 1)
           have z3 := hS.out.frozen ((a + kp) * 2)
           have z4 := hS.out.frozen ((a + kp) * 2 + 1)
           have hw1 := hS.out.swx (i := a) (j := a + kp) (by omega) (by omega) HX.out HY.out
           have hw2 := hS.out.swx' (i := a) (j := a + kp) (by omega) (by omega) HX.out HY.out
           have hA := (hS.out.put (i := a) (by omega) y).drew
           have hB := (hS.out.put (i := a + kp) (by omega) x).drew
           have a0 := hA.cell0 (i := a + kp) (by rw [Array.size_setIfInBounds]; omega)
           have a1 := hA.cell1 (i := a + kp) (by rw [Array.size_setIfInBounds]; omega)
           have a2 := hA.frozen ((a + kp) * 2)
           have a3 := hA.frozen ((a + kp) * 2 + 1)
           have b0 := hB.cell0 (i := a) (by rw [Array.size_setIfInBounds]; omega)
           have b1 := hB.cell1 (i := a) (by rw [Array.size_setIfInBounds]; omega)
           have b2 := hB.frozen ((a) * 2)
           have b3 := hB.frozen ((a) * 2 + 1)
           have hA' := hS.out.put (i := a) (by omega) y
           have hB' := hS.out.put (i := a + kp) (by omega) x
           have a4 := hA'.cell0 (i := a + kp) (by rw [Array.size_setIfInBounds]; omega)
           have a5 := hA'.cell1 (i := a + kp) (by rw [Array.size_setIfInBounds]; omega)
           have a6 := hA'.frozen ((a + kp) * 2)
           have a7 := hA'.frozen ((a + kp) * 2 + 1)
           have b4 := hB'.cell0 (i := a) (by rw [Array.size_setIfInBounds]; omega)
           have b5 := hB'.cell1 (i := a) (by rw [Array.size_setIfInBounds]; omega)
           have b6 := hB'.frozen ((a) * 2)
           have b7 := hB'.frozen ((a) * 2 + 1)
           clear hA hB hA' hB'
           go_cut [8, 12] (fun v8 v12 wc => (v8 = Value.int .i64 (a : Int) ∧ v12 = Value.int .i64 (kp : Int)) ∧ Hid (SR w0 g T rest (Sort.swp dk (a) (a + kp)) wc))
           case first =>
             go_region
             all_goals
               go_wp2_with fail
               go_meet
               refine ⟨by first | rfl | exact ⟨rfl, rfl⟩ | exact ⟨rfl, rfl, rfl⟩, ?_⟩
               unfold Hid
               first | (with_reducible exact hw1.drew) | (with_reducible exact hw2.drew) | (with_reducible exact hw1) | (with_reducible exact hw2)
           clear a0 a1 a2 a3 b0 b1 b2 b3 a4 a5 a6 a7 b4 b5 b6 b7 hw1 hw2 z1 z2 z3 z4 x0 x1 y0 y1 HX HY)
          case rest =>
            obtain ⟨⟨rfl, rfl⟩, hS2⟩ := hcut
            have hszs : (Sort.swp dk a (a + kp)).size = d.size := by rw [Sort.size_swp]; exact hsz
            have HDk := fun W h => HD (Sort.swp dk a (a + kp)) hszs 0 kp W h (by omega) (by omega)
            rw [hszs] at HDk
            have hsz2 := sift_size kp a kp 0 (Sort.swp dk a (a + kp)) (by omega)
            go_wp2_with (go_at_call 129; go_loud (refine (HDk _ hS2.out).mono ?_; rintro e w1 ⟨rfl, hS1⟩))
            go_roundw
            case rel => exact ⟨kp, _, by go_num, by omega, by rw [hsz2]; exact hszs, hE.out, hS1⟩
            case measure => first | (simp [intOf]; done) | (simp [intOf]; omega)
        | zero =>
          go_wp2_with fail
          go_end0
          refine ⟨rfl, ?_⟩
          rw [← hE.out]
          exact hS.out
end Go.Proofs.Ytglhdoibglafbaa
