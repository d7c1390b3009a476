/- Reference's Right of matchings. -/
import Derived.Test.YtgddfmfiiodgbaaU27
import Derived.Test.YtgddfmfiiodgbaaU29
import Derived.Test.YtgddfmfiiodgbaaU05
import Derived.Test.YtgddfmfiiodgbaaU03
import Derived.Deep.RegionLaw
namespace Go.Proofs.Ytgddfmfiiodgbaa
open Go Go.RowKit
set_option maxRecDepth 100000
set_option linter.unusedVariables false
set_option linter.unusedSimpArgs false

theorem has_adj {n : Nat} {es : List (Int × Int)} (hP : RightP n es) (v u : Nat) : hasB n es (v : Int) (u : Int) = true ↔ adjE es v u := by
  rw [hasB_iff ((right_iff n es).2 hP)]
  unfold adjE
  constructor
  · intro h
    by_cases hvu : (v : Int) ≤ (u : Int)
    · rw [Int.min_eq_left hvu, Int.max_eq_right hvu] at h; exact .inr h
    · rw [Int.min_eq_right (by omega), Int.max_eq_left (by omega)] at h; exact .inl h
  · intro h
    rcases h with h | h
    · have := hP.ok _ h
      simp only at this
      rw [Int.min_eq_right (by omega), Int.max_eq_left (by omega)]; exact h
    · have := hP.ok _ h
      simp only at this
      rw [Int.min_eq_left (by omega), Int.max_eq_right (by omega)]; exact h
theorem has_bd {n : Nat} {es : List (Int × Int)} (hP : RightP n es) (v x : Int) (h : hasB n es v x = true) : 0 ≤ x ∧ x < n := by
  have h1 := (hasB_iff ((right_iff n es).2 hP) v x).1 h
  have := hP.ok _ h1
  simp only at this
  omega
/-- What the reference asks of each vertex. -/
def okM (n : Nat) (es : List (Int × Int)) (l : List Int) (v : Nat) (x : Int) : Prop := x = -1 ∨ (hasB n es (v : Int) x = true ∧ l[x.toNat]? = some (v : Int))
theorem mateP_ok {n : Nat} {es : List (Int × Int)} {l : List Int} (hP : RightP n es) (hl : l.length = n) : MateP n es l ↔ ∀ v x, v < n → l[v]? = some x → okM n es l v x := by
  constructor
  · intro h v x hv hx
    rcases (mateP_to hP h).2 v x hv hx with h1 | h1
    · exact .inl h1
    · obtain ⟨u, h2, h3, h4⟩ := joinK_mate hP h1
      rw [hx] at h2
      cases h2
      exact .inr ⟨(has_adj hP v u).2 h4, by simpa using h3⟩
  · intro h
    refine mateP_of hP hl fun v x hv hx => ?_
    rcases h v x hv hx with h1 | ⟨h1, h2⟩
    · exact .inl h1
    · have hb := has_bd hP _ _ h1
      obtain ⟨u, rfl⟩ : ∃ u : Nat, x = (u : Int) := ⟨x.toNat, by omega⟩
      exact .inr (joinK_of (n := n) hx (by simpa using h2) ((has_adj hP v u).1 h1))

set_option maxHeartbeats 1000000 in
theorem rmright_no (n : Int) (es : List (Int × Int)) (A mA : Option Addr) (c m mc : Nat) (w : World) (hr : Reads w A (pcells es)) (hc : es.length ≤ c) (hm : es.length ≤ 4611686018427387903) (hR : rightB n es = false) :
    Calls Try.prog 34 #[.agg #[.int .i64 n, .slice A es.length c], .slice mA m mc] w fun e w' => e = .returned (.bool false) ∧ Below w.heap.size w w' := by
  have HRI := fun (W : World) (h : Reads W A (pcells es)) => refRight n es A c W h hc hm
  rw [hR] at HRI
  have HR := Lib.hid hr
  clear hr hR
  go_enter Try.func34, Try.ntmps34
  go_upto_region 1 with fail
  (obtain ⟨w1, hw1⟩ : ∃ w1, w1 = w.alloc (Obj.cells #[Value.int IntKind.i64 n, Value.slice A es.length c] 25) := ⟨_, rfl⟩
   rw [← hw1]
   have hb1 : Below w.heap.size w w1 := by rw [hw1]; exact (Below.refl _ _).alloc (Nat.le_refl _) _
   have h1 : w1.heap[w.heap.size]? = some (.cells #[Value.int IntKind.i64 n, Value.slice A es.length c] 25 (0, 0)) := by rw [hw1]; exact heap_alloc_new _ _
   have hs1 : w1.heap.size = w.heap.size + 1 := by rw [hw1, World.size_alloc]
   have c0 := blkc0 h1 0 _ rfl
   have c1 := blkc0 h1 1 _ rfl
   have HB1 := Lib.hid hb1
   have H1 := Lib.hid h1
   have HS1 := Lib.hid hs1
   clear hw1 hb1 h1 hs1)
  go_wp2_with (go_at_call 44; (refine (HRI w1 (HR.out.below HB1.out)).mono ?_; rintro e w2 ⟨rfl, hb2⟩))
  go_ret
  exact ⟨rfl, HB1.out.trans (hb2.mono HB1.out.size)⟩

set_option maxHeartbeats 1000000 in
theorem rmright_len (n : Int) (es : List (Int × Int)) (A mA : Option Addr) (c m mc : Nat) (w : World) (hr : Reads w A (pcells es)) (hc : es.length ≤ c) (hm : es.length ≤ 4611686018427387903) (hR : rightB n es = true) (hne : (m : Int) ≠ n) :
    Calls Try.prog 34 #[.agg #[.int .i64 n, .slice A es.length c], .slice mA m mc] w fun e w' => e = .returned (.bool false) ∧ Below w.heap.size w w' := by
  have HRI := fun (W : World) (h : Reads W A (pcells es)) => refRight n es A c W h hc hm
  rw [hR] at HRI
  have HR := Lib.hid hr
  have i1 : ((m : Int) != n) = true := by rw [bne_iff_ne]; exact hne
  clear hr hR
  go_enter Try.func34, Try.ntmps34
  go_upto_region 1 with fail
  (obtain ⟨w1, hw1⟩ : ∃ w1, w1 = w.alloc (Obj.cells #[Value.int IntKind.i64 n, Value.slice A es.length c] 25) := ⟨_, rfl⟩
   rw [← hw1]
   have hb1 : Below w.heap.size w w1 := by rw [hw1]; exact (Below.refl _ _).alloc (Nat.le_refl _) _
   have h1 : w1.heap[w.heap.size]? = some (.cells #[Value.int IntKind.i64 n, Value.slice A es.length c] 25 (0, 0)) := by rw [hw1]; exact heap_alloc_new _ _
   have hs1 : w1.heap.size = w.heap.size + 1 := by rw [hw1, World.size_alloc]
   have c0 := blkc0 h1 0 _ rfl
   have c1 := blkc0 h1 1 _ rfl
   have HB1 := Lib.hid hb1
   have H1 := Lib.hid h1
   have HS1 := Lib.hid hs1
   clear hw1 hb1 h1 hs1)
  go_wp2_with (go_at_call 44; (refine (HRI w1 (HR.out.below HB1.out)).mono ?_; rintro e w2 ⟨rfl, hb2⟩; have h2 := (hb2.block w.heap.size (by have := HS1.out; omega)).trans H1.out; have d0 := blkc0 h2 0 _ rfl; have d1 := blkc0 h2 1 _ rfl))
  go_ret
  exact ⟨rfl, HB1.out.trans (hb2.mono HB1.out.size)⟩

set_option maxHeartbeats 4000000 in
theorem rmright_yes (n : Nat) (es : List (Int × Int)) (A mA : Option Addr) (c mc : Nat) (l : List Int) (w : World) (hr : Reads w A (pcells es)) (hc : es.length ≤ c) (hR : rightB n es = true) (hl : l.length = n) (hrm : Reads w mA (icells l)) :
    Calls Try.prog 34 #[.agg #[.int .i64 (n : Int), .slice A es.length c], .slice mA n mc] w fun e w' => ∃ b, e = .returned (.bool b) ∧ (b = true ↔ MateP n es l) ∧ Below w.heap.size w w' := by
  have hP := (right_iff n es).1 hR
  have hn : n ≤ 4096 := by have := hP.n1; omega
  have hm : es.length ≤ 2000000 := by have := hP.len; omega
  have HRI := fun (W : World) (h : Reads W A (pcells es)) => refRight (n : Int) es A c W h hc (by omega)
  have HHA := fun (a b : Int) (W : World) (h : Reads W A (pcells es)) => refHas (n : Int) a b es A c W h hc (by omega)
  rw [hR] at HRI
  have HR := Lib.hid hr
  have HRM := Lib.hid hrm
  have HP := Lib.hid hP
  have HL := Lib.hid hl
  have i1 : ((n : Int) != (n : Int)) = false := by simp
  clear hr hR hP hrm hl
  go_enter Try.func34, Try.ntmps34
  go_upto_region 1 with fail
  (obtain ⟨w1, hw1⟩ : ∃ w1, w1 = w.alloc (Obj.cells #[Value.int IntKind.i64 (n : Int), Value.slice A es.length c] 25) := ⟨_, rfl⟩
   rw [← hw1]
   have hb1 : Below w.heap.size w w1 := by rw [hw1]; exact (Below.refl _ _).alloc (Nat.le_refl _) _
   have h1 : w1.heap[w.heap.size]? = some (.cells #[Value.int IntKind.i64 (n : Int), Value.slice A es.length c] 25 (0, 0)) := by rw [hw1]; exact heap_alloc_new _ _
   have hs1 : w1.heap.size = w.heap.size + 1 := by rw [hw1, World.size_alloc]
   have c0 := blkc0 h1 0 _ rfl
   have c1 := blkc0 h1 1 _ rfl
   have HB1 := Lib.hid hb1
   have H1 := Lib.hid h1
   have HS1 := Lib.hid hs1
   clear hw1 hb1 h1 hs1)
  go_upto_region 3 with (go_at_call 44; (refine (HRI w1 (HR.out.below HB1.out)).mono ?_; rintro e w2 ⟨rfl, hb2⟩; have h2 := (hb2.block w.heap.size (by have := HS1.out; omega)).trans H1.out; have d0 := blkc0 h2 0 _ rfl; have d1 := blkc0 h2 1 _ rfl))
  have H2 := Lib.hid h2
  have HB2 := Lib.hid (show Below w.heap.size w w2 from HB1.out.trans (hb2.mono HB1.out.size))
  have HS2 := Lib.hid (show w.heap.size < w2.heap.size by have := HS1.out; have := hb2.size; omega)
  clear h2 hb2 c0 c1 d0 d1
  go_wp2_with fail
  go_loopw [5] (fun i wr => ∃ (v : Nat), i = .int .i64 v ∧ v ≤ n ∧ Hid (∀ u x, u < v → l[u]? = some x → okM n es l u x) ∧ Hid (Below w2.heap.size w2 wr)) (fun i _ => n - (intOf i).toNat)
  case atStart => exact ⟨0, rfl, Nat.zero_le _, fun u x hu => absurd hu (Nat.not_lt_zero _), Below.refl _ _⟩
  case round =>
    obtain ⟨v, rfl, hv, hall, hb⟩ := hrel
    have h2 := (hb.out.block w.heap.size HS2.out).trans H2.out
    have d0 := blkc0 h2 0 _ rfl
    have d1 := blkc0 h2 1 _ rfl
    have HBW := Lib.hid (show Below w.heap.size w wr from HB2.out.trans (hb.out.mono HB2.out.size))
    clear h2
    by_cases hlt2 : v < n
    · obtain ⟨x, hx⟩ : ∃ z, l[v]? = some z := ⟨l[v]'(by rw [HL.out]; exact hlt2), by simp [HL.out, hlt2]⟩
      obtain ⟨mb, mo, hmA, _, cx⟩ := (HRM.out.below HBW.out).int v x hx
      rw [hmA]
      have k1 : (0 : Int) ≤ (v : Int) := by omega
      have k2 : (v : Int) < (n : Int) := by omega
      have HMA := Lib.hid hmA
      have HX := Lib.hid hx
      have hcons : okM n es l v x → ∀ u x, u < v + 1 → l[u]? = some x → okM n es l u x := fun h u z hu hz => by
        by_cases e : u = v
        · subst e; rw [HX.out] at hz; cases hz; exact h
        · exact hall.out u z (by omega) hz
      have HCONS := Lib.hid hcons
      have hnot : ¬ okM n es l v x → ¬ MateP n es l := fun h1 h => h1 ((mateP_ok HP.out HL.out).1 h v x hlt2 HX.out)
      have HNOT := Lib.hid hnot
      have HHV := HHA (v : Int) x wr (HR.out.below HBW.out)
      clear hmA hx hcons hnot
      by_cases h1 : x = -1
      · have j1 : (x != -1) = false := by simp [h1]
        have HAL := Lib.hid (HCONS.out (.inl h1))
        clear h1
        go_wp2_with fail
        exact ⟨⟨v + 1, by go_num, by omega, HAL, hb⟩, by simp [intOf]; omega⟩
      · have j1 : (x != -1) = true := by rw [bne_iff_ne]; exact h1
        cases hh : hasB n es v x with
        | false =>
          rw [hh] at HHV
          have HNO := Lib.hid (HNOT.out (by rintro (h | ⟨h, _⟩); exact h1 h; rw [hh] at h; cases h))
          clear hh h1
          go_wp2_with (go_at_call 83; (refine HHV.mono ?_; rintro e w3 ⟨rfl, hb3⟩))
          go_ret
          exact ⟨false, rfl, ⟨fun h => (by cases h), fun h => absurd h HNO.out⟩, HBW.out.trans (hb3.mono HBW.out.size)⟩
        | true =>
          rw [hh] at HHV
          have hxb := has_bd HP.out _ _ hh
          obtain ⟨u, rfl⟩ : ∃ u : Nat, x = (u : Int) := ⟨x.toNat, by omega⟩
          obtain ⟨y, hy⟩ : ∃ z, l[u]? = some z := ⟨l[u]'(by rw [HL.out]; omega), by simp [HL.out]⟩
          have HRU := fun (W : World) (h : Below w.heap.size w W) => (HRM.out.below h).int u y hy
          have HY := Lib.hid hy
          have HH := Lib.hid hh
          clear hy hh
          by_cases h3 : y = (v : Int)
          · have j3 : (y != (v : Int)) = false := by simp [h3]
            have HAL := Lib.hid (HCONS.out (.inr ⟨HH.out, by rw [Int.toNat_natCast, HY.out, h3]⟩))
            clear h3 h1
            go_wp2_with (go_at_call 83; (refine HHV.mono ?_; rintro e w3 ⟨rfl, hb3⟩; obtain ⟨mb1, mo1, e1, _, cy⟩ := HRU w3 (HBW.out.trans (hb3.mono HBW.out.size)); rw [HMA.out] at e1; obtain ⟨rfl, rfl⟩ : mb1 = mb ∧ mo1 = mo := by simp at e1; omega))
            exact ⟨⟨v + 1, by go_num, by omega, HAL, hb.out.trans (hb3.mono hb.out.size)⟩, by simp [intOf]; omega⟩
          · have j3 : (y != (v : Int)) = true := by rw [bne_iff_ne]; exact h3
            have HNO := Lib.hid (HNOT.out (by
              rintro (h | ⟨_, h⟩)
              · exact h1 h
              · rw [Int.toNat_natCast, HY.out] at h; exact h3 (Option.some.inj h)))
            clear h3 h1
            go_wp2_with (go_at_call 83; (refine HHV.mono ?_; rintro e w3 ⟨rfl, hb3⟩; obtain ⟨mb1, mo1, e1, _, cy⟩ := HRU w3 (HBW.out.trans (hb3.mono HBW.out.size)); rw [HMA.out] at e1; obtain ⟨rfl, rfl⟩ : mb1 = mb ∧ mo1 = mo := by simp at e1; omega))
            go_ret
            exact ⟨false, rfl, ⟨fun h => (by cases h), fun h => absurd h HNO.out⟩, HBW.out.trans (hb3.mono HBW.out.size)⟩
    · obtain rfl : v = n := by omega
      have hyes := (mateP_ok HP.out HL.out).2 hall.out
      have HY := Lib.hid hyes
      clear hyes hall
      go_wp2_with fail
      go_ret
      exact ⟨true, rfl, ⟨fun _ => HY.out, fun _ => rfl⟩, HBW.out⟩
end Go.Proofs.Ytgddfmfiiodgbaa

/- A block of a walk's own that keeps a graph (or an effort) while calls are made. -/
namespace Go.Proofs.Ytgddfmfiiodgbaa
open Go Go.RowKit
set_option maxRecDepth 100000
set_option linter.unusedVariables false
set_option linter.unusedSimpArgs false

/-- A block b, younger than w, holds two cells. -/
structure Box2 (w : World) (b : Nat) (x y : Value) (T : TypeId) (wc : World) : Prop where
  blk : wc.heap[b]? = some (.cells #[x, y] T (0, 0))
  below : Below w.heap.size w wc
theorem Box2.lt {w wc : World} {b : Nat} {x y : Value} {T : TypeId} (h : Box2 w b x y T wc) : b < wc.heap.size := heap_lt0 h.blk
theorem Box2.go {w wc wd : World} {b : Nat} {x y : Value} {T : TypeId} (h : Box2 w b x y T wc) (hb : Below wc.heap.size wc wd) : Box2 w b x y T wd := ⟨(hb.block b h.lt).trans h.blk, h.below.trans (hb.mono h.below.size)⟩
theorem Box2.old {w wc : World} {b : Nat} {x y : Value} {T : TypeId} (h : Box2 w b x y T wc) (o : Obj) : Box2 w b x y T (wc.alloc o) := h.go ((Below.refl _ _).alloc (Nat.le_refl _) o)
theorem Box2.drewN {w wc : World} {b : Nat} {x y : Value} {T : TypeId} (h : Box2 w b x y T wc) (q : Nat) : Box2 w b x y T (wc.drewN q) := h.go (below_drewN0 (Below.refl _ _) q)
theorem Box2.c0 {w wc : World} {b : Nat} {x y : Value} {T : TypeId} (h : Box2 w b x y T wc) : wc.cell? ⟨b, 0, none⟩ = some x := blkc0 h.blk 0 _ rfl
theorem Box2.c1 {w wc : World} {b : Nat} {x y : Value} {T : TypeId} (h : Box2 w b x y T wc) : wc.cell? ⟨b, 1, none⟩ = some y := blkc0 h.blk 1 _ rfl
theorem Box2.f0 {w wc : World} {b : Nat} {x y : Value} {T : TypeId} (h : Box2 w b x y T wc) (i : Nat) : wc.frozen? ⟨b, i, none⟩ = false := blkf0 h.blk i
theorem Box2.new {w wc : World} (h : Below w.heap.size w wc) (x y : Value) (T : TypeId) : Box2 w wc.heap.size x y T (wc.alloc (.cells #[x, y] T)) := ⟨heap_alloc_new _ _, h.alloc h.size _⟩
theorem Box2.set {w wc : World} {b : Nat} {x y : Value} {T : TypeId} (h : Box2 w b x y T wc) (hb : w.heap.size ≤ b) (x' y' : Value) : Box2 w b x' y' T ((wc.setCell ⟨b, 0, none⟩ x').setCell ⟨b, 1, none⟩ y') :=
  ⟨heap_set2 h.blk x' y', (h.below.setCell (p := ⟨b, 0, none⟩) hb _).setCell (p := ⟨b, 1, none⟩) hb _⟩
theorem Box2.far {w wc : World} {b : Nat} {x y : Value} {T : TypeId} (h : Box2 w b x y T wc) {b' : Nat} (hne : b ≠ b') (hb : w.heap.size ≤ b') (x' y' : Value) : Box2 w b x y T ((wc.setCell ⟨b', 0, none⟩ x').setCell ⟨b', 1, none⟩ y') :=
  ⟨heap_far (heap_far h.blk hne _) hne _, (h.below.setCell (p := ⟨b', 0, none⟩) hb _).setCell (p := ⟨b', 1, none⟩) hb _⟩
end Go.Proofs.Ytgddfmfiiodgbaa

/- The walk of put: an edge among some that rise. -/

namespace Go.Proofs.Ytgddfmfiiodgbaa
open Go Go.RowKit
set_option maxRecDepth 100000
set_option linter.unusedVariables false
set_option linter.unusedSimpArgs false


set_option maxHeartbeats 2000000 in
theorem put_any (es : List (Int × Int)) (x y : Int) (A : Option Addr) (c : Nat) (w : World) (hr : Reads w A (pcells es)) (hc : es.length ≤ c) (hm : es.length ≤ 100000) :
    Calls Try.prog 114 #[.slice A es.length c, .agg #[.int .i64 x, .int .i64 y]] w fun e w' => ∃ v, e = .returned v ∧ w'.ownsRow w.heap.size 49 2 v (es.length + 1) (pcells (putE es (x, y))) ∧ Below w.heap.size w w' := by
  go_enter Try.func114, Try.ntmps114
  go_wp2
  generalize hW : w.alloc (Obj.cells #[Value.int IntKind.i64 x, Value.int IntKind.i64 y] 49) = W
  have hbW : Below w.heap.size w W := by rw [← hW]; (repeat (first | with_reducible exact Below.refl _ _ | with_reducible assumption | with_reducible refine below_drewN0 ?_ _ | with_reducible refine Below.drew ?_ | with_reducible refine Below.alloc ?_ ?_ _ | with_reducible refine Below.setCell ?_ ?_ _ | go_size | exact Below.size (by assumption)))
  have hr1 := hr.below hbW
  have hg0 : W.cell? ⟨w.heap.size, 0, none⟩ = some (.int .i64 x) := by rw [← hW]; simp [go_sem]
  have hg1 : W.cell? ⟨w.heap.size, 1, none⟩ = some (.int .i64 y) := by rw [← hW]; simp [go_sem]
  have hgW : w.heap.size < W.heap.size := by rw [← hW]; simp
  clear hW hr
  go_loopw [5] (fun i wr => ∃ k : Nat, k ≤ es.length ∧ i = .int .i64 k ∧ Hid (putK es (x, y) es.length = putK es (x, y) k) ∧ Below W.heap.size W wr) (fun i _ => (intOf i).toNat)
  case atStart => exact ⟨es.length, Nat.le_refl _, rfl, rfl, Below.refl _ _⟩
  case round =>
    obtain ⟨k, hk, rfl, hok, hb⟩ := hrel
    have hg0' := (hb.cell (p := ⟨w.heap.size, 0, none⟩) hgW).trans hg0
    have hg1' := (hb.cell (p := ⟨w.heap.size, 1, none⟩) hgW).trans hg1
    have hfin : ∀ w', Below W.heap.size wr w' → Below w.heap.size w w' := fun w' h' => hbW.trans ((hb.trans h').mono hbW.size)
    have hWr : W.heap.size ≤ wr.heap.size := hb.size
    have hgr : w.heap.size < wr.heap.size := Nat.lt_of_lt_of_le hgW hb.size
    cases k with
    | zero =>
      (go_wp2_with fail
       refine wp_quiet_tail 9 (by kernel_rfl) (by kernel_rfl) ?_
       simp only [List.take_succ_cons, List.take_zero, List.drop_succ_cons, List.drop_zero]
       repeat (go_big_quiet_step (fail))
       refine wpQuiet_nil ?_
       intro _ hw'
       obtain ⟨nq, hw''⟩ := hw'
       subst hw'')
      go_wp2_with fail
      have hr2 := hr1.below hb
      have hS : ∀ w', Below wr.heap.size wr w' → w'.cell? ⟨w.heap.size, 0, none⟩ = some (.int .i64 x) ∧ w'.cell? ⟨w.heap.size, 1, none⟩ = some (.int .i64 y) := fun w' h' => ⟨(h'.cell (p := ⟨w.heap.size, 0, none⟩) hgr).trans hg0', (h'.cell (p := ⟨w.heap.size, 1, none⟩) hgr).trans hg1'⟩
      have HK0 : Hid (putK es (x, y) es.length = 0) := hok
      have hW0 : Below W.heap.size wr wr := Below.refl _ _
      clear hr1
      (have hlen := pcells_length es
       have hk1 : 0 ≤ es.length := by omega
       have HS := Lib.hid hS
       have HRT : Hid (Reads wr A (pcells (es.take 0))) := by
         have := (hr2).cut c 0 0 2 (Nat.zero_le _) (by rw [hlen]; omega) (by rw [hlen]; omega) (by omega)
         rw [pcells_take]
         by_cases hc0 : c = 0
         · have : pcells es = [] := List.eq_nil_of_length_eq_zero (by rw [hlen]; omega)
           exact .inl (by rw [this]; simp)
         · rw [if_neg hc0] at this
           simp only [Nat.zero_mul, List.drop_zero] at this
           rcases hr2 with h | ⟨b9, o9, h9, _⟩
           · exact .inl (by rw [h]; simp)
           · rw [h9] at this ⊢
             rwa [show ((some (⟨b9, o9, none⟩ : Addr)).map (·.add 0)) = some ⟨b9, o9, none⟩ by simp [Addr.add]] at this
       have HRD : Hid (Reads wr (if c = 0 then A else (A).map (·.add (0 * 2))) (pcells (es.drop 0))) := by
         have := (hr2).cut c 0 es.length 2 hk1 (by rw [hlen]; omega) (by rw [hlen]; omega) (by omega)
         rw [pcells_drop]
         rwa [List.take_of_length_le (by rw [hlen]; omega)] at this
       have HL1 : Hid ((pcells (es.take 0)).length = 0 * 2) := by unfold Hid; rw [pcells_length]; simp; try omega
       have HL2 : Hid ((pcells (es.drop 0)).length = (es.length - 0) * 2) := by unfold Hid; rw [pcells_length]; simp; try omega
       have HRD0 : Hid (Reads wr A (pcells (es.drop 0))) := hr2
       clear hlen
       go_region_held3 (fun w' => w'.cell? ⟨w.heap.size, 0, none⟩ = some (.int .i64 x) ∧ w'.cell? ⟨w.heap.size, 1, none⟩ = some (.int .i64 y)) (first | exact HS.out _ hb3 | exact HS.out _ hb2 | exact HS.out _ hb1 | exact HS.out _ (Below.alloc hb1 hb1.size _) | (refine HS.out _ ?_; (repeat (first | with_reducible exact Below.refl _ _ | with_reducible assumption | with_reducible refine below_drewN0 ?_ _ | with_reducible refine Below.drew ?_ | with_reducible refine Below.alloc ?_ ?_ _ | with_reducible refine Below.setCell ?_ ?_ _ | go_size | exact Below.size (by assumption))); done))
         (first
           | (refine step_app EI_edge rfl (.const (.slice none 0 0)) (.tmp 23) rfl (wr).heap.size (.slice none 0 0) 0 [] rfl (own_nil0 _ _ _ _) _ 0 _ (pcells (es.take 0)) rfl ?_ HL1.out (pcells_one _) ?_ ?_ ?_
              · exact HRT.out.below (by (repeat (first | with_reducible exact Below.refl _ _ | with_reducible assumption | with_reducible refine below_drewN0 ?_ _ | with_reducible refine Below.drew ?_ | with_reducible refine Below.alloc ?_ ?_ _ | with_reducible refine Below.setCell ?_ ?_ _ | go_size | exact Below.size (by assumption))))
              · omega
              · go_size
              intro v1 w1 hown1 hg1 hat1
              have hb1 : Below (wr).heap.size wr w1 := below_app (by (repeat (first | with_reducible exact Below.refl _ _ | with_reducible assumption | with_reducible refine below_drewN0 ?_ _ | with_reducible refine Below.drew ?_ | with_reducible refine Below.alloc ?_ ?_ _ | with_reducible refine Below.setCell ?_ ?_ _ | go_size | exact Below.size (by assumption)))) hg1 (by go_size) (by simp [Value.ownBlock]))
           | (refine step_app EI_edge rfl (.tmp 24) (.tmp 26) rfl (wr).heap.size v1 (0 + 0) ([] ++ pcells (es.take 0)) rfl ?_ (some ⟨_, 0, none⟩) 1 1 [.int .i64 x, .int .i64 y] rfl ?_ rfl ?_ ?_ ?_ ?_
              · first | exact hown1 | exact own_below0 hown1 (by (repeat (first | with_reducible exact Below.refl _ _ | with_reducible assumption | with_reducible refine below_drewN0 ?_ _ | with_reducible refine Below.drew ?_ | with_reducible refine Below.alloc ?_ ?_ _ | with_reducible refine Below.setCell ?_ ?_ _ | go_size | exact Below.size (by assumption))))
              · (first | exact reads_new _ [_, _] _ | (refine Reads.grown ?_ hg1 (by simp [Value.ownBlock]); exact reads_new _ [_, _] _))
              · simp [Value.oneCell']
              · omega
              · first | exact hb1.size | (have := hb1.size; go_size)
              intro v2 w2 hown2 hg2 hat2
              have hb2 : Below (wr).heap.size wr w2 := (by first | exact below_app hb1 hg2 hb1.size (fun g hg => (own_lt0 hown1 g hg).1) | exact below_app (Below.alloc hb1 hb1.size _) hg2 (by have := hb1.size; go_size) (fun g hg => (own_lt0 hown1 g hg).1)))
           | (refine step_app EI_edge rfl (.tmp 27) (.tmp 30) rfl (wr).heap.size v2 (0 + 0 + 1) _ rfl hown2 _ (es.length - 0) _ (pcells (es.drop 0)) rfl ?_ HL2.out (pcells_one _) ?_ ?_ ?_
              · first | exact HRD.out.below hb2 | exact HRD0.out.below hb2
              · omega
              · exact hb2.size
              intro v3 w3 hown3 hg3 hat3
              have hb3 : Below (wr).heap.size wr w3 := below_app hb2 hg3 hb2.size (fun g hg => (own_lt0 hown2 g hg).1)))
       all_goals go_wp2_with fail
       all_goals
         go_ret
         refine ⟨v3, rfl, own_cast hown3 (by have := hbW.size; have := hb.size; omega) (by omega) ?_, hfin _ (Below.trans hW0 (hb3.mono (by have := (hW0).size; omega)))⟩
         rw [putE, HK0.out, pcells_append]
         simp [pcells])
    | succ j =>
      obtain ⟨⟨x', y'⟩, hxy⟩ : ∃ e, es[j]? = some e := ⟨es[j], by simp⟩
      obtain ⟨b, o, rfl, hbl, e1, e2⟩ := (hr1.below hb).pair' j _ hxy
      have HXY := Lib.hid hxy
      clear hxy
      have HA := fun W => aheadE x y x' y' W
      rw [ahead_cmp] at HA
      have HK : Hid (putK es (x, y) (j + 1) = if ltE (x, y) (x', y') = true then putK es (x, y) j else j + 1) := by
        unfold Hid
        conv => lhs; unfold putK
        rw [HXY.out]
      unfold ltE at HK
      dsimp only at HK
      generalize decide (cmpE x y x' y' < 0) = cp at HA HK
      have hr2 := hr1.below hb
      cases cp with
      | true =>
        (go_wp2_with fail
         refine wp_quiet_tail 9 (by kernel_rfl) (by kernel_rfl) ?_
         simp only [List.take_succ_cons, List.take_zero, List.drop_succ_cons, List.drop_zero]
         repeat (go_big_quiet_step (fail))
         refine wpQuiet_nil ?_
         intro _ hw'
         obtain ⟨nq, hw''⟩ := hw'
         subst hw'')
        go_wp2_with (go_at_call 103; refine (HA _).mono ?_; rintro e w1 ⟨rfl, hb1⟩)
        go_roundw
        case rel => exact ⟨j, by omega, rfl, hok.out.trans HK.out, hb.trans (Below.trans (by (repeat (first | with_reducible exact Below.refl _ _ | with_reducible assumption | with_reducible refine below_drewN0 ?_ _ | with_reducible refine Below.drew ?_ | with_reducible refine Below.alloc ?_ ?_ _ | with_reducible refine Below.setCell ?_ ?_ _ | go_size | exact Below.size (by assumption)))) (hb1.mono (by simp; omega)))⟩
        case measure => simp [intOf]
      | false =>
        (go_wp2_with fail
         refine wp_quiet_tail 9 (by kernel_rfl) (by kernel_rfl) ?_
         simp only [List.take_succ_cons, List.take_zero, List.drop_succ_cons, List.drop_zero]
         repeat (go_big_quiet_step (fail))
         refine wpQuiet_nil ?_
         intro _ hw'
         obtain ⟨nq, hw''⟩ := hw'
         subst hw'')
        go_wp2_with (go_at_call 103; refine (HA _).mono ?_; rintro e wc ⟨rfl, hbc0⟩)
        have hbc : Below wr.heap.size wr wc := Below.trans (by (repeat (first | with_reducible exact Below.refl _ _ | with_reducible assumption | with_reducible refine below_drewN0 ?_ _ | with_reducible refine Below.drew ?_ | with_reducible refine Below.alloc ?_ ?_ _ | with_reducible refine Below.setCell ?_ ?_ _ | go_size | exact Below.size (by assumption)))) (hbc0.mono (by simp))
        have hrc := hr2.below hbc
        have hsc := hbc.size
        have hS : ∀ w', Below wc.heap.size wc w' → w'.cell? ⟨w.heap.size, 0, none⟩ = some (.int .i64 x) ∧ w'.cell? ⟨w.heap.size, 1, none⟩ = some (.int .i64 y) := fun w' h' => ⟨((h'.cell (p := ⟨w.heap.size, 0, none⟩) (Nat.lt_of_lt_of_le hgr hsc)).trans (hbc.cell (p := ⟨w.heap.size, 0, none⟩) hgr)).trans hg0', ((h'.cell (p := ⟨w.heap.size, 1, none⟩) (Nat.lt_of_lt_of_le hgr hsc)).trans (hbc.cell (p := ⟨w.heap.size, 1, none⟩) hgr)).trans hg1'⟩
        have HK0 : Hid (putK es (x, y) es.length = j + 1) := hok.out.trans HK.out
        have hW0 : Below W.heap.size wr wc := hbc.mono hWr
        clear hbc0 hr1 hr2 hg0' hg1' e1 e2 HA HK HXY hok
        have q0 : (0 : Int) ≤ (j : Int) + 1 := by omega
        have q1 : (j : Int) + 1 ≤ (c : Int) := by omega
        have q2 : (j : Int) + 1 ≤ (es.length : Int) := by omega
        have q3 : ((j : Int) + 1).toNat = j + 1 := by omega
        (have hlen := pcells_length es
         have hk1 : (j + 1) ≤ es.length := by omega
         have HS := Lib.hid hS
         have HRT : Hid (Reads wc (some (⟨b, o, none⟩ : Addr)) (pcells (es.take (j + 1)))) := by
           have := (hrc).cut c 0 (j + 1) 2 (Nat.zero_le _) (by rw [hlen]; omega) (by rw [hlen]; omega) (by omega)
           rw [pcells_take]
           by_cases hc0 : c = 0
           · have : pcells es = [] := List.eq_nil_of_length_eq_zero (by rw [hlen]; omega)
             exact .inl (by rw [this]; simp)
           · rw [if_neg hc0] at this
             simp only [Nat.zero_mul, List.drop_zero] at this
             rcases hrc with h | ⟨b9, o9, h9, _⟩
             · exact .inl (by rw [h]; simp)
             · rw [h9] at this ⊢
               rwa [show ((some (⟨b9, o9, none⟩ : Addr)).map (·.add 0)) = some ⟨b9, o9, none⟩ by simp [Addr.add]] at this
         have HRD : Hid (Reads wc (if c = (j + 1) then (some (⟨b, o, none⟩ : Addr)) else ((some (⟨b, o, none⟩ : Addr))).map (·.add ((j + 1) * 2))) (pcells (es.drop (j + 1)))) := by
           have := (hrc).cut c (j + 1) es.length 2 hk1 (by rw [hlen]; omega) (by rw [hlen]; omega) (by omega)
           rw [pcells_drop]
           rwa [List.take_of_length_le (by rw [hlen]; omega)] at this
         have HL1 : Hid ((pcells (es.take (j + 1))).length = (j + 1) * 2) := by unfold Hid; rw [pcells_length]; simp; try omega
         have HL2 : Hid ((pcells (es.drop (j + 1))).length = (es.length - (j + 1)) * 2) := by unfold Hid; rw [pcells_length]; simp; try omega
         have HRD0 : Hid (Reads wc (some (⟨b, o, none⟩ : Addr)) (pcells (es.drop 0))) := hrc
         clear hlen
         go_region_held3 (fun w' => w'.cell? ⟨w.heap.size, 0, none⟩ = some (.int .i64 x) ∧ w'.cell? ⟨w.heap.size, 1, none⟩ = some (.int .i64 y)) (first | exact HS.out _ hb3 | exact HS.out _ hb2 | exact HS.out _ hb1 | exact HS.out _ (Below.alloc hb1 hb1.size _) | (refine HS.out _ ?_; (repeat (first | with_reducible exact Below.refl _ _ | with_reducible assumption | with_reducible refine below_drewN0 ?_ _ | with_reducible refine Below.drew ?_ | with_reducible refine Below.alloc ?_ ?_ _ | with_reducible refine Below.setCell ?_ ?_ _ | go_size | exact Below.size (by assumption))); done))
           (first
             | (refine step_app EI_edge rfl (.const (.slice none 0 0)) (.tmp 23) rfl (wc).heap.size (.slice none 0 0) 0 [] rfl (own_nil0 _ _ _ _) _ (j + 1) _ (pcells (es.take (j + 1))) rfl ?_ HL1.out (pcells_one _) ?_ ?_ ?_
                · exact HRT.out.below (by (repeat (first | with_reducible exact Below.refl _ _ | with_reducible assumption | with_reducible refine below_drewN0 ?_ _ | with_reducible refine Below.drew ?_ | with_reducible refine Below.alloc ?_ ?_ _ | with_reducible refine Below.setCell ?_ ?_ _ | go_size | exact Below.size (by assumption))))
                · omega
                · go_size
                intro v1 w1 hown1 hg1 hat1
                have hb1 : Below (wc).heap.size wc w1 := below_app (by (repeat (first | with_reducible exact Below.refl _ _ | with_reducible assumption | with_reducible refine below_drewN0 ?_ _ | with_reducible refine Below.drew ?_ | with_reducible refine Below.alloc ?_ ?_ _ | with_reducible refine Below.setCell ?_ ?_ _ | go_size | exact Below.size (by assumption)))) hg1 (by go_size) (by simp [Value.ownBlock]))
             | (refine step_app EI_edge rfl (.tmp 24) (.tmp 26) rfl (wc).heap.size v1 (0 + (j + 1)) ([] ++ pcells (es.take (j + 1))) rfl ?_ (some ⟨_, 0, none⟩) 1 1 [.int .i64 x, .int .i64 y] rfl ?_ rfl ?_ ?_ ?_ ?_
                · first | exact hown1 | exact own_below0 hown1 (by (repeat (first | with_reducible exact Below.refl _ _ | with_reducible assumption | with_reducible refine below_drewN0 ?_ _ | with_reducible refine Below.drew ?_ | with_reducible refine Below.alloc ?_ ?_ _ | with_reducible refine Below.setCell ?_ ?_ _ | go_size | exact Below.size (by assumption))))
                · (first | exact reads_new _ [_, _] _ | (refine Reads.grown ?_ hg1 (by simp [Value.ownBlock]); exact reads_new _ [_, _] _))
                · simp [Value.oneCell']
                · omega
                · first | exact hb1.size | (have := hb1.size; go_size)
                intro v2 w2 hown2 hg2 hat2
                have hb2 : Below (wc).heap.size wc w2 := (by first | exact below_app hb1 hg2 hb1.size (fun g hg => (own_lt0 hown1 g hg).1) | exact below_app (Below.alloc hb1 hb1.size _) hg2 (by have := hb1.size; go_size) (fun g hg => (own_lt0 hown1 g hg).1)))
             | (refine step_app EI_edge rfl (.tmp 27) (.tmp 30) rfl (wc).heap.size v2 (0 + (j + 1) + 1) _ rfl hown2 _ (es.length - (j + 1)) _ (pcells (es.drop (j + 1))) rfl ?_ HL2.out (pcells_one _) ?_ ?_ ?_
                · first | exact HRD.out.below hb2 | exact HRD0.out.below hb2
                · omega
                · exact hb2.size
                intro v3 w3 hown3 hg3 hat3
                have hb3 : Below (wc).heap.size wc w3 := below_app hb2 hg3 hb2.size (fun g hg => (own_lt0 hown2 g hg).1)))
         all_goals go_wp2_with fail
         all_goals
           go_ret
           refine ⟨v3, rfl, own_cast hown3 (by have := hbW.size; have := hb.size; omega) (by omega) ?_, hfin _ (Below.trans hW0 (hb3.mono (by have := (hW0).size; omega)))⟩
           rw [putE, HK0.out, pcells_append]
           simp [pcells])

end Go.Proofs.Ytgddfmfiiodgbaa
