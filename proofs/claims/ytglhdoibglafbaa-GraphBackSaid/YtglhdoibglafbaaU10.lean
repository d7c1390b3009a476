/- The sort at edges with graph.Make's method value: the row, its test, its exchange (no walk). -/
import Derived.Test.YtglhdoibglafbaaU08
import Derived.Test.YtglhdoibglafbaaU09
import Derived.Sort.LotD7
import Derived.Deep.RegionHeld3
namespace Go.Proofs.Ytglhdoibglafbaa
open Go Go.RowKit
set_option maxRecDepth 100000
set_option linter.unusedVariables false
set_option linter.unusedSimpArgs false

def ltP (x y : PE) : Bool := decide (cmpE x.1 x.2 y.1 y.2 < 0)
/-- The row lies in block g, whole; nothing else has changed since w0. -/
def SR (w0 : World) (g : Nat) (T : TypeId) (rest : List Value) (d : Array PE) (W : World) : Prop :=
  W.heap[g]? = some (.cells (pcells d.toList ++ rest).toArray T (0, 0)) ∧ W.os = w0.os ∧ W.tape = w0.tape ∧ W.output = w0.output ∧ w0.heap.size ≤ W.heap.size ∧ ∀ k, k < w0.heap.size → k ≠ g → W.heap[k]? = w0.heap[k]?

section
variable {w0 W : World} {g : Nat} {T : TypeId} {rest : List Value} {d : Array PE}
theorem SR.lt (h : SR w0 g T rest d W) : g < W.heap.size := heap_lt0 h.1
theorem SR.cell0 (h : SR w0 g T rest d W) {i : Nat} (hi : i < d.size) : W.cell? ⟨g, i * 2, none⟩ = some (.int .i64 d[i]!.1) := by
  rw [cell_of_row W g _ _ T (0, 0) h.1]
  have h2 := (pcells_get d.toList i d[i]! (by rw [getElem!_pos d i hi]; simp [hi])).1
  rw [Nat.mul_comm 2 i] at h2
  rw [List.getElem?_toArray, List.getElem?_append_left (by rw [pcells_length]; simp; omega)]
  exact h2
theorem SR.cell1 (h : SR w0 g T rest d W) {i : Nat} (hi : i < d.size) : W.cell? ⟨g, i * 2 + 1, none⟩ = some (.int .i64 d[i]!.2) := by
  rw [cell_of_row W g _ _ T (0, 0) h.1]
  have h2 := (pcells_get d.toList i d[i]! (by rw [getElem!_pos d i hi]; simp [hi])).2
  rw [Nat.mul_comm 2 i] at h2
  rw [List.getElem?_toArray, List.getElem?_append_left (by rw [pcells_length]; simp; omega)]
  exact h2
theorem SR.frozen (h : SR w0 g T rest d W) (k : Nat) : W.frozen? ⟨g, k, none⟩ = false := by simp [World.frozen?, h.1]
theorem SR.below (h : SR w0 g T rest d W) {W' : World} (hb : Below W.heap.size W W') : SR w0 g T rest d W' :=
  ⟨(hb.block g h.lt).trans h.1, hb.os.trans h.2.1, hb.tape.trans h.2.2.1, hb.output.trans h.2.2.2.1, Nat.le_trans h.2.2.2.2.1 hb.size, fun k hk hne => (hb.block k (Nat.lt_of_lt_of_le hk h.2.2.2.2.1)).trans (h.2.2.2.2.2 k hk hne)⟩
theorem SR.set (h : SR w0 g T rest d W) (d' : Array PE) (k : Nat) (v : Value) (W' : World) (hW : W' = W.setCell ⟨g, k, none⟩ v) : W'.heap[g]? = some (.cells ((pcells d.toList ++ rest).set k v).toArray T (0, 0)) ∧ W'.os = w0.os ∧ W'.tape = w0.tape ∧ W'.output = w0.output ∧ w0.heap.size ≤ W'.heap.size ∧ ∀ k, k < w0.heap.size → k ≠ g → W'.heap[k]? = w0.heap[k]? := by
  subst hW
  refine ⟨blk_put h.1 k v, h.2.1, h.2.2.1, h.2.2.2.1, by rw [World.size_setCell]; exact h.2.2.2.2.1, fun j hj hne => ?_⟩
  rw [Below.heap_setCell _ _ _ _ (by dsimp only; exact hne)]
  exact h.2.2.2.2.2 j hj hne
theorem pcells_setE (l rest : List PE) (r : List Value) (i : Nat) (y : PE) (hi : i < l.length) : ((pcells l ++ r).set (i * 2) (.int .i64 y.1)).set (i * 2 + 1) (.int .i64 y.2) = pcells (l.set i y) ++ r := by
  have hx : l[i]? = some l[i] := by simp [hi]
  have hlen := pcells_length l
  rw [List.set_append_left _ _ (by omega), List.set_append_left _ _ (by rw [List.length_set]; omega)]
  congr 1
  rw [pcells_set0 l i l[i].1 l[i].2 y.1 hx, pcells_set1 _ i y.1 l[i].2 y.2 (by simp [hi]), List.set_set]
/-- One place of the row set. -/
theorem SR.put (h : SR w0 g T rest d W) {i : Nat} (hi : i < d.size) (y : PE) : SR w0 g T rest (d.setIfInBounds i y) ((W.setCell ⟨g, i * 2, none⟩ (.int .i64 y.1)).setCell ⟨g, i * 2 + 1, none⟩ (.int .i64 y.2)) := by
  have h1 := blk_put h.1 (i * 2) (.int .i64 y.1)
  have h2 := blk_put h1 (i * 2 + 1) (.int .i64 y.2)
  rw [pcells_setE d.toList [] rest i y (by simpa using hi)] at h2
  refine ⟨by rw [Array.toList_setIfInBounds]; exact h2, h.2.1, h.2.2.1, h.2.2.2.1, by rw [World.size_setCell, World.size_setCell]; exact h.2.2.2.2.1, fun j hj hne => ?_⟩
  rw [Below.heap_setCell _ _ _ _ (by dsimp only; exact hne), Below.heap_setCell _ _ _ _ (by dsimp only; exact hne)]
  exact h.2.2.2.2.2 j hj hne
/-- The exchange, the left place first. -/
theorem SR.swap (h : SR w0 g T rest d W) {i j : Nat} (hi : i < d.size) (hj : j < d.size) :
    SR w0 g T rest (Sort.swp d i j) ((((W.setCell ⟨g, i * 2, none⟩ (.int .i64 d[j]!.1)).setCell ⟨g, i * 2 + 1, none⟩ (.int .i64 d[j]!.2)).setCell ⟨g, j * 2, none⟩ (.int .i64 d[i]!.1)).setCell ⟨g, j * 2 + 1, none⟩ (.int .i64 d[i]!.2)) := by
  unfold Sort.swp
  exact (h.put hi d[j]!).put (by simpa using hj) d[i]!
/-- The exchange, the right place first. -/
theorem SR.swap' (h : SR w0 g T rest d W) {i j : Nat} (hi : i < d.size) (hj : j < d.size) :
    SR w0 g T rest (Sort.swp d i j) ((((W.setCell ⟨g, j * 2, none⟩ (.int .i64 d[i]!.1)).setCell ⟨g, j * 2 + 1, none⟩ (.int .i64 d[i]!.2)).setCell ⟨g, i * 2, none⟩ (.int .i64 d[j]!.1)).setCell ⟨g, i * 2 + 1, none⟩ (.int .i64 d[j]!.2)) := by
  have h1 := (h.put hj d[i]!).put (i := i) (by simpa using hi) d[j]!
  have e : Sort.swp d i j = (d.setIfInBounds j d[i]!).setIfInBounds i d[j]! := by
    unfold Sort.swp
    apply Array.ext_getElem?
    intro k
    by_cases hij : i = j
    · subst hij; rfl
    · simp only [Array.getElem?_setIfInBounds]
      by_cases h1 : j = k
      · subst h1
        have h2 : ¬ i = j := hij
        simp [h2]
      · by_cases h2 : i = k
        · subst h2; simp [h1]
        · simp [h1, h2]
  rw [e]; exact h1
theorem SR.drew (h : SR w0 g T rest d W) : SR w0 g T rest d W.drew := h
theorem SR.swx (h : SR w0 g T rest d W) {i j : Nat} (hi : i < d.size) (hj : j < d.size) {x y : PE} (hx : x = d[i]!) (hy : y = d[j]!) :
    SR w0 g T rest (Sort.swp d i j) ((((W.setCell ⟨g, i * 2, none⟩ (.int .i64 y.1)).setCell ⟨g, i * 2 + 1, none⟩ (.int .i64 y.2)).setCell ⟨g, j * 2, none⟩ (.int .i64 x.1)).setCell ⟨g, j * 2 + 1, none⟩ (.int .i64 x.2)) := by
  subst hx hy; exact h.swap hi hj
theorem SR.swx' (h : SR w0 g T rest d W) {i j : Nat} (hi : i < d.size) (hj : j < d.size) {x y : PE} (hx : x = d[i]!) (hy : y = d[j]!) :
    SR w0 g T rest (Sort.swp d i j) ((((W.setCell ⟨g, j * 2, none⟩ (.int .i64 x.1)).setCell ⟨g, j * 2 + 1, none⟩ (.int .i64 x.2)).setCell ⟨g, i * 2, none⟩ (.int .i64 y.1)).setCell ⟨g, i * 2 + 1, none⟩ (.int .i64 y.2)) := by
  subst hx hy; exact h.swap' hi hj
end
theorem sr_far4 {W : World} {g Q : Nat} {i1 i2 i3 i4 : Nat} {v1 v2 v3 v4 : Value} (h : Q ≠ g) : ((((W.setCell ⟨g, i1, none⟩ v1).setCell ⟨g, i2, none⟩ v2).setCell ⟨g, i3, none⟩ v3).setCell ⟨g, i4, none⟩ v4).heap[Q]? = W.heap[Q]? := by
  rw [Below.heap_setCell _ _ _ _ (by dsimp only; exact h), Below.heap_setCell _ _ _ _ (by dsimp only; exact h), Below.heap_setCell _ _ _ _ (by dsimp only; exact h), Below.heap_setCell _ _ _ _ (by dsimp only; exact h)]
theorem sr_far4d {W : World} {g Q : Nat} {i1 i2 i3 i4 : Nat} {v1 v2 v3 v4 : Value} (h : Q ≠ g) : ((((W.setCell ⟨g, i1, none⟩ v1).setCell ⟨g, i2, none⟩ v2).setCell ⟨g, i3, none⟩ v3).setCell ⟨g, i4, none⟩ v4).drew.heap[Q]? = W.heap[Q]? := sr_far4 h
/- Macros of the walks: the test of two places, and their exchange. -/
end Go.Proofs.Ytglhdoibglafbaa

/- Walk of insertionSortCmpFunc at edges. -/
namespace Go.Proofs.Ytglhdoibglafbaa
open Go Go.RowKit
set_option maxRecDepth 100000
set_option linter.unusedVariables false
set_option linter.unusedSimpArgs false

set_option maxHeartbeats 4000000 in
theorem ins_any (w0 W : World) (g : Nat) (T : TypeId) (rest : List Value) (d : Array PE) (c a b : Nat) (hS : SR w0 g T rest d W) (hab : a ≤ b) (hb : b ≤ d.size) (hm : d.size ≤ 1000000) :
    Calls Try.prog 107 #[.slice (some ⟨g, 0, none⟩) d.size c, .int .i64 a, .int .i64 b, (Value.func (.func 68) #[.agg #[]] #[])] W fun e w' => e = .returned (.tuple #[]) ∧ SR w0 g T rest (Sort.insertionSort ltP d a b) w' := by
  have HS := Lib.hid hS
  clear hS
  go_enter Try.func107, Try.ntmps107
  go_wp2_with fail
  go_loopw [8] (fun i wx => ∃ (k : Nat) (dk : Array PE), a + 1 ≤ k ∧ i = .int .i64 k ∧ dk.size = d.size ∧ Hid (Sort.insOuter ltP a b k dk = Sort.insertionSort ltP d a b) ∧ Hid (SR w0 g T rest dk wx)) (fun i _ => b - (intOf i).toNat)
  case atStart => exact ⟨a + 1, d, Nat.le_refl _, by go_num, rfl, rfl, HS⟩
  case round =>
    clear HS
    obtain ⟨k, dk, hak, rfl, hsz, hO, hS⟩ := hrel
    by_cases hkb : k < b
    · have kI : (k : Int) < (b : Int) := by omega
      go_upto_region 4 with fail
      go_loopw [9] (fun i wx => ∃ (j : Nat) (dj : Array PE), j ≤ k ∧ i = .int .i64 j ∧ dj.size = d.size ∧ Hid (Sort.insInner ltP a j dj = Sort.insInner ltP a k dk) ∧ Hid (SR w0 g T rest dj wx)) (fun i _ => (intOf i).toNat)
      case atStart => exact ⟨k, dk, Nat.le_refl _, rfl, hsz, rfl, hS⟩
      case round =>
        clear hS
        obtain ⟨j, dj, hjk, rfl, hsj, hI, hS⟩ := hrel
        by_cases haj : a < j
        · obtain ⟨jp, rfl⟩ : ∃ p, j = p + 1 := ⟨j - 1, by omega⟩
          obtain ⟨dk', rfl⟩ : ∃ z, z = dk := ⟨_, rfl⟩
          obtain ⟨dk, rfl⟩ : ∃ z, z = dj := ⟨_, rfl⟩
          have g1 : decide ((a : Int) < ((jp + 1 : Nat) : Int)) = true := decide_eq_true (by omega)
          have g2 : decide (a < jp + 1) = true := decide_eq_true (by omega)
          have g3 : decide (a ≤ jp) = true := decide_eq_true (by omega)
          have g4 : decide ((a : Int) ≤ (jp : Int)) = true := decide_eq_true (by omega)
          have g5 : decide ((a : Int) < (jp : Int) + 1) = true := decide_eq_true (by omega)
          (have : (0 : Int) ≤ (jp : Int) + 1 := by omega
           have : ((jp : Int) + 1 : Int).toNat = jp + 1 := by omega
           have : ((jp : Int) + 1 : Int) < (d.size : Int) := by omega
           have : IntKind.i64.wrap ((jp : Int) + 1 : Int) = (jp : Int) + 1 := by rw [IntKind.wrap_i64]; omega)
          (have : (0 : Int) ≤ (jp : Int) := by omega
           have : ((jp : Int) : Int).toNat = jp := by omega
           have : ((jp : Int) : Int) < (d.size : Int) := by omega
           have : IntKind.i64.wrap ((jp : Int) : Int) = (jp : Int) := by rw [IntKind.wrap_i64]; omega)
          have w1 : IntKind.i64.wrap ((jp : Int) + 1 - 1) = (jp : Int) := by rw [IntKind.wrap_i64]; omega
          ((obtain ⟨x, hx⟩ : ∃ x : PE, x = dk[jp + 1]! := ⟨_, rfl⟩
            obtain ⟨y, hy⟩ : ∃ y : PE, y = dk[jp]! := ⟨_, rfl⟩
            have x0 := hS.out.cell0 (i := jp + 1) (by omega)
            have x1 := hS.out.cell1 (i := jp + 1) (by omega)
            have y0 := hS.out.cell0 (i := jp) (by omega)
            have y1 := hS.out.cell1 (i := jp) (by omega)
            rw [← hx] at x0 x1
            rw [← hy] at y0 y1
            have HX := Lib.hid hx
            have HY := Lib.hid hy
            clear hx hy)
           have HC := fun W => compareE x.1 x.2 y.1 y.2 W
           have hlt : Hid (ltP dk[jp + 1]! dk[jp]! = decide (cmpE x.1 x.2 y.1 y.2 < 0)) := by unfold Hid; rw [← HX.out, ← HY.out]; rfl
           have hgl := hS.out.lt
           have HK := Lib.hid (fun (W' : World) (h : Below wr.heap.size wr W') => (⟨(h.cell (p := ⟨g, (jp + 1) * 2, none⟩) hgl).trans x0, (h.cell (p := ⟨g, (jp + 1) * 2 + 1, none⟩) hgl).trans x1, (h.cell (p := ⟨g, (jp) * 2, none⟩) hgl).trans y0, (h.cell (p := ⟨g, (jp) * 2 + 1, none⟩) hgl).trans y1⟩ :
             W'.cell? ⟨g, (jp + 1) * 2, none⟩ = some (.int .i64 x.1) ∧ W'.cell? ⟨g, (jp + 1) * 2 + 1, none⟩ = some (.int .i64 x.2) ∧ W'.cell? ⟨g, (jp) * 2, none⟩ = some (.int .i64 y.1) ∧ W'.cell? ⟨g, (jp) * 2 + 1, none⟩ = some (.int .i64 y.2)))
           generalize cmpE x.1 x.2 y.1 y.2 = cp at HC hlt
           (try go_wp2_with fail)
           go_region_held3 (fun w' => w'.cell? ⟨g, (jp + 1) * 2, none⟩ = some (.int .i64 x.1) ∧ w'.cell? ⟨g, (jp + 1) * 2 + 1, none⟩ = some (.int .i64 x.2) ∧ w'.cell? ⟨g, (jp) * 2, none⟩ = some (.int .i64 y.1) ∧ w'.cell? ⟨g, (jp) * 2 + 1, none⟩ = some (.int .i64 y.2))
             (first | exact ⟨x0, x1, y0, y1⟩ | exact HK.out _ hbT | (refine HK.out _ ?_; (repeat (first | with_reducible exact Below.refl _ _ | with_reducible assumption | with_reducible refine below_drewN0 ?_ _ | with_reducible refine Below.drew ?_ | with_reducible refine Below.alloc ?_ ?_ _ | with_reducible refine Below.setCell ?_ ?_ _ | go_size | exact Below.size (by assumption))); done))
             (first | (go_at_call 68; go_loud (refine (HC _).mono ?_; rintro e w1 ⟨rfl, hbc⟩; have hbT : Below wr.heap.size wr w1 := Below.trans (by (repeat (first | with_reducible exact Below.refl _ _ | with_reducible assumption | with_reducible refine below_drewN0 ?_ _ | with_reducible refine Below.drew ?_ | with_reducible refine Below.alloc ?_ ?_ _ | with_reducible refine Below.setCell ?_ ?_ _ | go_size | exact Below.size (by assumption)))) (hbc.mono (by go_size)))))
           have hS1 := Lib.hid (hS.out.below hbT)
           clear HC HK x0 x1 y0 y1)
          by_cases hcp : cp < 0
          · have hlt2 : Hid (Sort.insInner ltP a (jp + 1) dk = Sort.insInner ltP a jp (Sort.swp dk (jp + 1) jp)) := by
              unfold Hid
              rw [Sort.insInner, hlt.out, decide_eq_true hcp]
              simp [g2]
            go_upto_region 6 with fail
            clear hS
            have hS := hS1
            (have z1 := hS.out.frozen ((jp + 1) * 2)
             have z2 := hS.out.frozen ((jp + 1) * 2 + 1)
             have z3 := hS.out.frozen ((jp) * 2)
             have z4 := hS.out.frozen ((jp) * 2 + 1)
             have hw1 := hS.out.swx (i := jp + 1) (j := jp) (by omega) (by omega) HX.out HY.out
             have hw2 := hS.out.swx' (i := jp + 1) (j := jp) (by omega) (by omega) HX.out HY.out
             (try go_wp2_with fail)
             go_region
             all_goals
               go_wp2_with fail
               go_roundw
               case rel =>
                 refine ⟨jp, Sort.swp dk (jp + 1) jp, by omega, by go_num, by rw [Sort.size_swp]; exact hsj, hlt2.out.symm.trans hI.out, ?_⟩
                 unfold Hid
                 first | (with_reducible exact hw1.drew) | (with_reducible exact hw2.drew) | (with_reducible exact hw1) | (with_reducible exact hw2)
               case measure => first | (simp [intOf]; done) | (simp [intOf]; omega))
          · have hlt2 : Hid (Sort.insInner ltP a (jp + 1) dk = dk) := by
              unfold Hid
              rw [Sort.insInner, hlt.out, decide_eq_false hcp]
              simp
            go_wp2_with fail
            go_roundw
            case rel => exact ⟨k + 1, dk, by omega, by go_num, hsj, by unfold Hid; rw [← hO.out, Sort.insOuter.eq_1 ltP a b k dk', if_pos hkb, ← hI.out, hlt2.out], hS1⟩
            case measure => simp [intOf]; omega
        · have g1 : decide ((a : Int) < (j : Int)) = false := decide_eq_false (by omega)
          have g2 : decide (a < j) = false := decide_eq_false (by omega)
          go_wp2_with fail
          go_quiet (fail)
          have hz : Hid (Sort.insInner ltP a j dj = dj) := by
            unfold Hid
            cases j with
            | zero => rfl
            | succ j => rw [Sort.insInner, if_neg (by simp; omega)]
          go_wp2_with fail
          go_roundw
          case rel => exact ⟨k + 1, dj, by omega, by go_num, hsj, by unfold Hid; rw [← hO.out, Sort.insOuter.eq_1 ltP a b k dk, if_pos hkb, ← hI.out, hz.out], hS⟩
          case measure => simp [intOf]; omega
    · go_wp2_with fail
      go_end0
      refine ⟨rfl, ?_⟩
      rw [← hO.out, Sort.insOuter.eq_1 ltP a b k dk, if_neg hkb]
      exact hS.out
end Go.Proofs.Ytglhdoibglafbaa
