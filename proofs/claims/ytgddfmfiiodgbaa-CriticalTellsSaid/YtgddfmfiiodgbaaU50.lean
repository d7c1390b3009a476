/- play.Beside. -/
import Derived.Test.YtgddfmfiiodgbaaU33
import Derived.Test.YtgddfmfiiodgbaaU46
import Derived.Deep.RegionLaw
import Derived.Deep.CutBlock
import Derived.Test.YtgddfmfiiodgbaaU48
import Derived.Test.YtgddfmfiiodgbaaU39
namespace Go.Proofs.Ytgddfmfiiodgbaa
open Go Go.RowKit
set_option maxRecDepth 100000
set_option linter.unusedVariables false
set_option linter.unusedSimpArgs false

def shE (n : Int) (e : Int × Int) : Int × Int := (e.1 + n, e.2 + n)
def besL (n : Int) (es hs : List (Int × Int)) : List (Int × Int) := es ++ hs.map (shE n)
theorem besL_len (n : Int) (es hs : List (Int × Int)) : (besL n es hs).length = es.length + hs.length := by simp [besL]

/-- What Beside holds: the new graph in its block, its own row. -/
structure BsW (W3 : World) (b5 : Nat) (N : Int) (L : List (Int × Int)) (A' : Option Addr) (c' : Nat) (wr : World) : Prop where
  blk : wr.heap[b5]? = some (.cells #[.int .i64 N, .slice A' L.length c'] 25 (0, 0))
  own : wr.ownsRow W3.heap.size 49 2 (.slice A' L.length c') L.length (pcells L)
  ne : ∀ q, A' = some q → q.block ≠ b5
  lo : W3.heap.size ≤ b5
  below : Below W3.heap.size W3 wr

theorem BsW.at7 {W3 wr w6 w7 : World} {b5 : Nat} {N : Int} {L : List (Int × Int)} {A' : Option Addr} {c' : Nat} (h : BsW W3 b5 N L A' c' wr) (hb6 : Below wr.heap.size wr w6) (hg : w6.grownBy w7 (Value.slice A' L.length c').ownBlock) : w7.heap[b5]? = some (.cells #[.int .i64 N, .slice A' L.length c'] 25 (0, 0)) := by
  have hlt := heap_lt0 h.blk
  have hnb : (Value.slice A' L.length c').ownBlock ≠ some b5 := fun e => by
    cases hA : A' with
    | none => rw [hA] at e; cases e
    | some q => rw [hA] at e; exact h.ne q hA (by simpa [Value.ownBlock] using e)
  exact (hg.block b5 (Nat.lt_of_lt_of_le hlt hb6.size) (fun e => hnb e.symm)).trans ((hb6.block b5 hlt).trans h.blk)

theorem BsW.next {W3 wr w7 : World} {b5 : Nat} {N : Int} {L : List (Int × Int)} {A' A7 : Option Addr} {c' c7 : Nat} (h : BsW W3 b5 N L A' c' wr) {x y : Int} {w6 : World} (hb6 : Below wr.heap.size wr w6) (ho : w7.ownsRow W3.heap.size 49 2 (.slice A7 (L.length + 1) c7) (L.length + 1) (pcells L ++ [.int .i64 x, .int .i64 y])) (hg : w6.grownBy w7 (Value.slice A' L.length c').ownBlock) (hat : (Value.slice A7 (L.length + 1) c7).ownBlock = (Value.slice A' L.length c').ownBlock ∨ (Value.slice A7 (L.length + 1) c7).ownBlock = some w6.heap.size) :
    BsW W3 b5 N (L ++ [(x, y)]) A7 c7 (w7.setCell ⟨b5, 1, none⟩ (.slice A7 (L.length + 1) c7)) := by
  have hl := own_lt0 h.own
  have hlt := heap_lt0 h.blk
  have hnb : (Value.slice A' L.length c').ownBlock ≠ some b5 := fun e => by
    cases hA : A' with
    | none => rw [hA] at e; cases e
    | some q => rw [hA] at e; exact h.ne q hA (by simpa [Value.ownBlock] using e)
  have hblk7 := (hg.block b5 (Nat.lt_of_lt_of_le hlt hb6.size) (fun e => hnb e.symm)).trans ((hb6.block b5 hlt).trans h.blk)
  have hl9 : (L ++ [(x, y)]).length = L.length + 1 := by simp
  have hne7 : ∀ q, A7 = some q → q.block ≠ b5 := fun q hq e => by
    subst hq
    have e1 : (Value.slice (some q) (L.length + 1) c7).ownBlock = some q.block := rfl
    rcases hat with h1 | h1
    · rw [e1, e] at h1; exact hnb h1.symm
    · rw [e1, e] at h1; simp at h1; have := hb6.size; omega
  refine ⟨?_, ?_, hne7, h.lo, ?_⟩
  · rw [hl9]; simp [World.setCell, Array.getElem?_modify, hblk7]
  · rw [hl9]
    have hg5 : ∀ g, (Value.slice A7 (L.length + 1) c7).ownBlock = some g → g ≠ b5 := fun g hg' => by
      cases hA : A7 with
      | none => rw [hA] at hg'; cases hg'
      | some q =>
        rw [hA] at hg'
        have e9 : q.block = g := by simpa [Value.ownBlock] using hg'
        rw [← e9]
        exact hne7 q hA
    have h1 := own_far (w' := w7.setCell ⟨b5, 1, none⟩ (.slice A7 (L.length + 1) c7)) ho fun g hg' => Below.heap_setCell _ _ _ _ (hg5 g hg')
    exact own_cast h1 (Nat.le_refl _) rfl (by simp [pcells])
  · have h1 : Below W3.heap.size W3 w6 := h.below.trans (hb6.mono h.below.size)
    exact (h1.grown hg h1.size (fun g hg' => (hl g hg').1)).setCell (p := ⟨b5, 1, none⟩) h.lo _

theorem bsw_a {W3 w1 : World} {N : Int} {es : List (Int × Int)} {A1 : Option Addr} {c1 : Nat} (hb1 : Below W3.heap.size W3 w1) (ho : w1.ownsRow W3.heap.size 49 2 (.slice A1 es.length c1) es.length (pcells es)) :
    BsW W3 w1.heap.size N es A1 c1 (w1.alloc (.cells #[.int .i64 N, .slice A1 es.length c1] 25)) :=
  ⟨heap_alloc_new _ _, own_below0 ho ((Below.refl _ _).alloc (Nat.le_refl _) _), fun q hq e => by
    subst hq
    have := (own_lt0 ho q.block rfl).2
    omega, hb1.size, hb1.alloc hb1.size _⟩

theorem bsw_b {W3 w1 : World} {N : Int} {es : List (Int × Int)} {A1 : Option Addr} {c1 : Nat} (hb1 : Below W3.heap.size W3 w1) (ho : w1.ownsRow W3.heap.size 49 2 (.slice A1 es.length c1) es.length (pcells es))
    (hg : w1.heap[W3.heap.size]? = some (.cells #[.int .i64 0, .slice none 0 0] 25)) (hat : (Value.slice A1 es.length c1).ownBlock = (Value.slice none 0 0).ownBlock ∨ (Value.slice A1 es.length c1).ownBlock = some (W3.alloc (Obj.cells #[Value.int IntKind.i64 0, Value.slice none 0 0] 25)).drew.heap.size) :
    BsW W3 W3.heap.size N es A1 c1 ((w1.setCell ⟨W3.heap.size, 0, none⟩ (.int .i64 N)).setCell ⟨W3.heap.size, 1, none⟩ (.slice A1 es.length c1)) := by
  have hne : ∀ q, A1 = some q → q.block ≠ W3.heap.size := fun q hq e => by
    subst hq
    have e1 : (Value.slice (some q) es.length c1).ownBlock = some q.block := rfl
    rcases hat with h1 | h1
    · rw [e1] at h1; cases h1
    · have e8 : (W3.alloc (Obj.cells #[Value.int IntKind.i64 0, Value.slice none 0 0] 25)).drew.heap.size = W3.heap.size + 1 := World.size_alloc _ _
      rw [e1, e, e8] at h1
      simp at h1
  refine ⟨?_, ?_, hne, Nat.le_refl _, (hb1.setCell (p := ⟨W3.heap.size, 0, none⟩) (Nat.le_refl _) _).setCell (p := ⟨W3.heap.size, 1, none⟩) (Nat.le_refl _) _⟩
  · simp [World.setCell, Array.getElem?_modify, hg]
  · have hg5 : ∀ g, (Value.slice A1 es.length c1).ownBlock = some g → g ≠ W3.heap.size := fun g hg' => by
      cases hA : A1 with
      | none => rw [hA] at hg'; cases hg'
      | some q =>
        rw [hA] at hg'
        have e9 : q.block = g := by simpa [Value.ownBlock] using hg'
        rw [← e9]
        exact hne q hA
    refine own_far ho fun g hg' => ?_
    rw [Below.heap_setCell _ _ _ _ (hg5 g hg'), Below.heap_setCell _ _ _ _ (hg5 g hg')]


set_option maxHeartbeats 4000000 in
theorem beside_any {n m : Int} {es hs : List (Int × Int)} (A A2 : Option Addr) (c c2 : Nat) (w : World) (hr : Reads w A (pcells es)) (hc : es.length ≤ c) (hr2 : Reads w A2 (pcells hs)) (hc2 : hs.length ≤ c2)
    (hn : 0 ≤ n ∧ n ≤ 4096) (hm : 0 ≤ m ∧ m ≤ 4096) (hl : es.length ≤ 60000) (hl2 : hs.length ≤ 60000) (hok : ∀ e ∈ hs, 0 ≤ e.1 ∧ e.1 ≤ 4096 ∧ 0 ≤ e.2 ∧ e.2 ≤ 4096) :
    Calls Try.prog 60 #[.agg #[.int .i64 n, .slice A es.length c], .agg #[.int .i64 m, .slice A2 hs.length c2]] w fun e w' => ∃ A' c', e = .returned (.agg #[.int .i64 (n + m), .slice A' (besL n es hs).length c']) ∧ (besL n es hs).length ≤ c' ∧ Reads w' A' (pcells (besL n es hs)) ∧ Below w.heap.size w w' := by
  have HR := Lib.hid hr
  have HR2 := Lib.hid hr2
  have HOK := Lib.hid hok
  have q1 : IntKind.i64.wrap (n + m) = n + m := by rw [IntKind.wrap_i64]; omega
  clear hr hr2 hok
  go_enter Try.func60, Try.ntmps60
  go_upto_region 1 with fail
  obtain ⟨W3, hW3⟩ : ∃ W, W = ((w.alloc (Obj.cells #[Value.int IntKind.i64 n, Value.slice A es.length c] 25)).alloc (Obj.cells #[Value.int IntKind.i64 m, Value.slice A2 hs.length c2] 25)).alloc (Obj.cells #[Value.int IntKind.i64 0, Value.slice none 0 0] 25) := ⟨_, rfl⟩
  rw [← hW3]
  have hX2 : Box2 w w.heap.size (.int .i64 n) (.slice A es.length c) 25 W3 := by rw [hW3]; exact ((Box2.new (Below.refl _ _) _ _ _).old _).old _
  have hX3 : Box2 w (w.heap.size + 1) (.int .i64 m) (.slice A2 hs.length c2) 25 W3 := by
    rw [hW3]
    have h := Box2.new (w := w) (wc := w.alloc (Obj.cells #[Value.int IntKind.i64 n, Value.slice A es.length c] 25)) ((Below.refl _ _).alloc (Nat.le_refl _) _) (.int .i64 m) (.slice A2 hs.length c2) 25
    rw [World.size_alloc] at h
    exact h.old _
  have hX4 : Box2 w (w.heap.size + 1 + 1) (.int .i64 0) (.slice none 0 0) 25 W3 := by
    rw [hW3]
    have h := Box2.new (w := w) (wc := (w.alloc (Obj.cells #[Value.int IntKind.i64 n, Value.slice A es.length c] 25)).alloc (Obj.cells #[Value.int IntKind.i64 m, Value.slice A2 hs.length c2] 25)) (((Below.refl _ _).alloc (Nat.le_refl _) _).alloc (by simp) _) (.int .i64 0) (.slice none 0 0) 25
    rw [World.size_alloc, World.size_alloc] at h
    exact h
  clear hW3
  obtain ⟨b2, h2⟩ : ∃ b, b = w.heap.size := ⟨_, rfl⟩
  obtain ⟨b3, h3⟩ : ∃ b, b = w.heap.size + 1 := ⟨_, rfl⟩
  obtain ⟨b4, h4⟩ : ∃ b, b = w.heap.size + 1 + 1 := ⟨_, rfl⟩
  rw [← h2] at hX2
  rw [← h3] at hX3
  rw [← h4] at hX4
  rw [← h4, ← h3, ← h2]
  have HBB := Lib.hid (And.intro h2 (And.intro h3 h4))
  have x0 := hX2.c0
  have x1 := hX2.c1
  have y0 := hX3.c0
  have y1 := hX3.c1
  have HC : Hid (∀ W, Below W3.heap.size W3 W → W.cell? ⟨b2, 0, none⟩ = some (.int .i64 n) ∧ W.cell? ⟨b2, 1, none⟩ = some (.slice A es.length c) ∧ W.cell? ⟨b3, 0, none⟩ = some (.int .i64 m)) := fun W h => ⟨(hX2.go h).c0, (hX2.go h).c1, (hX3.go h).c0⟩
  have HX2 := Lib.hid hX2
  have HX3 := Lib.hid hX3
  have HX4 := Lib.hid hX4
  have hpl := Lib.hid (pcells_length es)
  clear hX2 hX3 hX4 h2 h3 h4
  go_cut [5] (fun p wc => ∃ b5 A' c', p = .pointer (some ⟨b5, 0, none⟩) ∧ Hid (BsW W3 b5 (n + m) es A' c' wc) ∧ es.length ≤ c')
  case first =>
    go_region_held3 (fun W => W.cell? ⟨b2, 0, none⟩ = some (.int .i64 n) ∧ W.cell? ⟨b2, 1, none⟩ = some (.slice A es.length c) ∧ W.cell? ⟨b3, 0, none⟩ = some (.int .i64 m))
      (first | exact ⟨x0, x1, y0⟩ | exact HC.out _ hb1 | (refine HC.out _ ?_; (repeat (first | with_reducible exact Below.refl _ _ | with_reducible assumption | with_reducible refine below_drewN0 ?_ _ | with_reducible refine Below.drew ?_ | with_reducible refine Below.alloc ?_ ?_ _ | with_reducible refine Below.setCell ?_ ?_ _ | go_size | exact Below.size (by assumption))); done))
      (go_loud (
         refine step_app EI_edge rfl (.const (.slice none 0 0)) (.tmp 13) rfl W3.heap.size (.slice none 0 0) 0 [] rfl (own_nil0 _ _ _ _) A es.length c (pcells es) rfl ?_ ?_ (pcells_one _) ?_ ?_ ?_
         · exact (HR.out.below HX2.out.below).below (by (repeat (first | with_reducible exact Below.refl _ _ | with_reducible assumption | with_reducible refine below_drewN0 ?_ _ | with_reducible refine Below.drew ?_ | with_reducible refine Below.alloc ?_ ?_ _ | with_reducible refine Below.setCell ?_ ?_ _ | go_size | exact Below.size (by assumption))))
         · rw [hpl.out]; omega
         · omega
         · go_size
         intro v1 w1 hown1 hg1 hat1
         have hb1 : Below W3.heap.size W3 w1 := below_app (by (repeat (first | with_reducible exact Below.refl _ _ | with_reducible assumption | with_reducible refine below_drewN0 ?_ _ | with_reducible refine Below.drew ?_ | with_reducible refine Below.alloc ?_ ?_ _ | with_reducible refine Below.setCell ?_ ?_ _ | go_size | exact Below.size (by assumption)))) hg1 (by go_size) (by simp [Value.ownBlock])
         simp only [Nat.zero_add, List.nil_append] at hown1
         obtain ⟨A1, c1, rfl, hc1, _⟩ := own_reads0 hown1
         first | (obtain ⟨z0, z1, z2, z3, z4⟩ := blk2 ((hg1.block W3.heap.size (by go_size) (by simp [Value.ownBlock])).trans (heap_alloc_new _ _))) | skip))
    all_goals go_wp2_with fail
    all_goals go_meet
    all_goals first
      | exact ⟨_, A1, c1, rfl, bsw_a hb1 hown1, hc1⟩
      | exact ⟨_, A1, c1, rfl, bsw_b hb1 hown1 ((hg1.block W3.heap.size (by go_size) (by simp [Value.ownBlock])).trans (heap_alloc_new _ _)) hat1, hc1⟩
  case rest =>
    obtain ⟨b5, A1, c1, rfl, hB1, hc1⟩ := hcut
    clear x0 x1 y0 y1
    go_wp2_with fail
    go_loopw [6] (fun i wr => ∃ (j : Nat) (L : List (Int × Int)) (A' : Option Addr) (c' : Nat), i = .int .i64 j ∧ j ≤ hs.length ∧ Hid (L = es ++ (hs.take j).map (shE n)) ∧ Hid (BsW W3 b5 (n + m) L A' c' wr) ∧ L.length ≤ c') (fun i _ => hs.length - (intOf i).toNat)
    case atStart => exact ⟨0, es, A1, c1, rfl, Nat.zero_le _, Lib.hid (by simp), hB1, hc1⟩
    case round =>
      clear hB1 hc1
      obtain ⟨j, L, A', c', rfl, hj, hL, hB, hc'⟩ := hrel
      have hbw := hB.out.below
      obtain ⟨y0, y1, _, _, _⟩ := blk2 (HX3.out.go hbw).blk
      obtain ⟨x0, x1, _, _, _⟩ := blk2 (HX2.out.go hbw).blk
      obtain ⟨z0, z1, z2, z3, z4⟩ := blk2 hB.out.blk
      by_cases hlt : j < hs.length
      · have i1 : (j : Int) < (hs.length : Int) := by omega
        obtain ⟨x, y, hxy⟩ : ∃ x y, hs[j]? = some (x, y) := ⟨hs[j].1, hs[j].2, by simp [hlt]⟩
        have hx := HOK.out (x, y) (List.mem_of_getElem? hxy)
        simp only at hx
        obtain ⟨pb, po, hA2, hpb, f1, f2⟩ := (HR2.out.below HX2.out.below).pair' j _ hxy
        simp only at f1 f2
        have hsz := hbw.size
        have q2 : IntKind.i64.wrap (x + n) = x + n := by rw [IntKind.wrap_i64]; omega
        have q3 : IntKind.i64.wrap (y + n) = y + n := by rw [IntKind.wrap_i64]; omega
        have i2 : (0 : Int) ≤ (j : Int) := by omega
        have hLl : L.length = es.length + j := by rw [hL.out]; simp; omega
        have hLn : L ++ [(x + n, y + n)] = es ++ (hs.take (j + 1)).map (shE n) := by
          rw [hL.out, List.take_add_one, hxy]; simp [shE]
        have HLN := Lib.hid hLn
        have HXY := Lib.hid hxy
        have HLL := Lib.hid hLl
        have hpl2 := pcells_length L
        have HPL := Lib.hid hpl2
        have hLb : L.length ≤ 120000 := by omega
        have HA2 := Lib.hid hA2
        clear hLn hxy hLl hpl2
        subst hA2
        have HS : Hid (∀ W, Below W3.heap.size W3 W → W.cell? ⟨b3, 1, none⟩ = some (.slice (some ⟨pb, po, none⟩) hs.length c2) ∧ W.cell? ⟨b2, 0, none⟩ = some (.int .i64 n) ∧ W.cell? ⟨pb, po + j * 2, none⟩ = some (.int .i64 x) ∧ W.cell? ⟨pb, po + j * 2 + 1, none⟩ = some (.int .i64 y)) := fun W h => ⟨(HX3.out.go h).c1, (HX2.out.go h).c0, (h.cell (p := ⟨pb, po + j * 2, none⟩) hpb).trans f1, (h.cell (p := ⟨pb, po + j * 2 + 1, none⟩) hpb).trans f2⟩
        have hs0 := HS.out wr hbw
        clear f1 f2
        go_upto_block 1 with fail
        go_cut [] (fun wc => ∃ A7 c7, Hid (BsW W3 b5 (n + m) (L ++ [(x + n, y + n)]) A7 c7 wc) ∧ L.length + 1 ≤ c7)
        case first =>
          go_wp2_with fail
          refine wp_region_held_drew (S := fun W => W.cell? ⟨b3, 1, none⟩ = some (.slice (some ⟨pb, po, none⟩) hs.length c2) ∧ W.cell? ⟨b2, 0, none⟩ = some (.int .i64 n) ∧ W.cell? ⟨pb, po + j * 2, none⟩ = some (.int .i64 x) ∧ W.cell? ⟨pb, po + j * 2 + 1, none⟩ = some (.int .i64 y)) (by kernel_rfl) ?_ (fun hHeld => ?_)
          focus (first | exact hs0 | exact hHeld | exact HS.out _ hb7 | exact HS.out _ h78.below | (refine HS.out _ ?_; (repeat (first | with_reducible exact Below.refl _ _ | with_reducible assumption | with_reducible refine below_drewN0 ?_ _ | with_reducible refine Below.drew ?_ | with_reducible refine Below.alloc ?_ ?_ _ | with_reducible refine Below.setCell ?_ ?_ _ | go_size | exact Below.size (by assumption))); done))
          (refine wpAnyH_take (i := 0) (v := ?_) rfl (by kernel_rfl) (by kernel_rfl) (by kernel_rfl) (fun _ _ _ h => h) (Or.inl ⟨by rfl, ?_⟩) hHeld ?_
           rotate_left
           focus (intro w9 hSw; (try dsimp only at hSw); go_simp; first | done | with_reducible rfl)
           (try simp only [Act.put, List.setIfInBounds_toArray, List.set_cons_zero, List.set_cons_succ]))
          (refine wpAnyH_take (i := 2) (v := ?_) rfl (by kernel_rfl) (by kernel_rfl) (by kernel_rfl) (fun _ _ _ h => h) (Or.inl ⟨by rfl, ?_⟩) hHeld ?_
           rotate_left
           focus (intro w9 hSw; (try dsimp only at hSw); go_simp; first | done | with_reducible rfl)
           (try simp only [Act.put, List.setIfInBounds_toArray, List.set_cons_zero, List.set_cons_succ]))
          (refine wpAnyH_take (i := 3) (v := ?_) rfl (by kernel_rfl) (by kernel_rfl) (by kernel_rfl) (fun _ _ _ h => h) (Or.inl ⟨by rfl, ?_⟩) hHeld ?_
           rotate_left
           focus (intro w9 hSw; (try dsimp only at hSw); go_simp; first | done | with_reducible rfl)
           (try simp only [Act.put, List.setIfInBounds_toArray, List.set_cons_zero, List.set_cons_succ]))
          (refine wpAnyH_take (i := 4) (v := ?_) rfl (by kernel_rfl) (by kernel_rfl) (by kernel_rfl) (fun _ _ _ h => h) (Or.inl ⟨by rfl, ?_⟩) hHeld ?_
           rotate_left
           focus (intro w9 hSw; (try dsimp only at hSw); go_simp; first | done | with_reducible rfl)
           (try simp only [Act.put, List.setIfInBounds_toArray, List.set_cons_zero, List.set_cons_succ]))
          (refine wpAnyH_take (i := 5) (v := ?_) rfl (by kernel_rfl) (by kernel_rfl) (by kernel_rfl) (fun _ _ _ h => h) (Or.inl ⟨by rfl, ?_⟩) hHeld ?_
           rotate_left
           focus (intro w9 hSw; (try dsimp only at hSw); go_simp; first | done | with_reducible rfl)
           (try simp only [Act.put, List.setIfInBounds_toArray, List.set_cons_zero, List.set_cons_succ]))
          (refine wpAnyH_take (i := 6) (v := ?_) rfl (by kernel_rfl) (by kernel_rfl) (by kernel_rfl) (fun _ _ _ h => h) (Or.inl ⟨by rfl, ?_⟩) hHeld ?_
           rotate_left
           focus (intro w9 hSw; (try dsimp only at hSw); go_simp; first | done | with_reducible rfl)
           (try simp only [Act.put, List.setIfInBounds_toArray, List.set_cons_zero, List.set_cons_succ]))
          (refine wpAnyH_take (i := 7) (v := ?_) rfl (by kernel_rfl) (by kernel_rfl) (by kernel_rfl) (fun _ _ _ h => h) (Or.inl ⟨by rfl, ?_⟩) hHeld ?_
           rotate_left
           focus (intro w9 hSw; (try dsimp only at hSw); go_simp; first | done | with_reducible rfl)
           (try simp only [Act.put, List.setIfInBounds_toArray, List.set_cons_zero, List.set_cons_succ]))
          (refine wpAnyH_take (i := 8) (v := ?_) rfl (by kernel_rfl) (by kernel_rfl) (by kernel_rfl) (fun _ _ _ h => h) (Or.inl ⟨by rfl, ?_⟩) hHeld ?_
           rotate_left
           focus (intro w9 hSw; (try dsimp only at hSw); go_simp; first | done | with_reducible rfl)
           (try simp only [Act.put, List.setIfInBounds_toArray, List.set_cons_zero, List.set_cons_succ]))
          (refine wpAnyH_take (i := 9) (v := ?_) rfl (by kernel_rfl) (by kernel_rfl) (by kernel_rfl) (fun _ _ _ h => h) (Or.inl ⟨by rfl, ?_⟩) hHeld ?_
           rotate_left
           focus (intro w9 hSw; (try dsimp only at hSw); go_simp; first | done | with_reducible rfl)
           (try simp only [Act.put, List.setIfInBounds_toArray, List.set_cons_zero, List.set_cons_succ]))
          (refine wpAnyH_take (i := 10) (v := ?_) rfl (by kernel_rfl) (by kernel_rfl) (by kernel_rfl) (fun _ _ _ h => h) (Or.inl ⟨by rfl, ?_⟩) hHeld ?_
           rotate_left
           focus (intro w9 hSw; (try dsimp only at hSw); go_simp; first | done | with_reducible rfl)
           (try simp only [Act.put, List.setIfInBounds_toArray, List.set_cons_zero, List.set_cons_succ]))
          (refine wpAnyH_take (i := 11) (v := ?_) rfl (by kernel_rfl) (by kernel_rfl) (by kernel_rfl) (fun _ _ _ h => h) (Or.inl ⟨by rfl, ?_⟩) hHeld ?_
           rotate_left
           focus (intro w9 hSw; (try dsimp only at hSw); go_simp; first | done | with_reducible rfl)
           (try simp only [Act.put, List.setIfInBounds_toArray, List.set_cons_zero, List.set_cons_succ]))
          (refine wpAnyH_take (i := 12) (v := ?_) rfl (by kernel_rfl) (by kernel_rfl) (by kernel_rfl) (fun _ _ _ h => h) (Or.inl ⟨by rfl, ?_⟩) hHeld ?_
           rotate_left
           focus (intro w9 hSw; (try dsimp only at hSw); go_simp; first | done | with_reducible rfl)
           (try simp only [Act.put, List.setIfInBounds_toArray, List.set_cons_zero, List.set_cons_succ]))
          (refine wpAnyH_take (i := 13) (v := ?_) rfl (by kernel_rfl) (by kernel_rfl) (by kernel_rfl) (fun _ _ _ h => h) (Or.inl ⟨by rfl, ?_⟩) hHeld ?_
           rotate_left
           focus (intro w9 hSw; (try dsimp only at hSw); go_simp; first | done | with_reducible rfl)
           (try simp only [Act.put, List.setIfInBounds_toArray, List.set_cons_zero, List.set_cons_succ]))
          (refine wpAnyH_take (i := 14) (v := ?_) rfl (by kernel_rfl) (by kernel_rfl) (by kernel_rfl) (fun _ _ _ h => h) (Or.inl ⟨by rfl, ?_⟩) hHeld ?_
           rotate_left
           focus (intro w9 hSw; (try dsimp only at hSw); go_simp; first | done | with_reducible rfl)
           (try simp only [Act.put, List.setIfInBounds_toArray, List.set_cons_zero, List.set_cons_succ]))
          (refine wpAnyH_take (i := 15) (v := ?_) rfl (by kernel_rfl) (by kernel_rfl) (by kernel_rfl) (fun _ _ _ h => h) (Or.inl ⟨by rfl, ?_⟩) hHeld ?_
           rotate_left
           focus (intro w9 hSw; (try dsimp only at hSw); go_simp; first | done | with_reducible rfl)
           (try simp only [Act.put, List.setIfInBounds_toArray, List.set_cons_zero, List.set_cons_succ]))
          (refine wpAnyH_take (i := 16) (v := ?_) rfl (by kernel_rfl) (by kernel_rfl) (by kernel_rfl) (fun _ _ _ h => h) (Or.inl ⟨by rfl, ?_⟩) hHeld ?_
           rotate_left
           focus (intro w9 hSw; (try dsimp only at hSw); go_simp; first | done | with_reducible rfl)
           (try simp only [Act.put, List.setIfInBounds_toArray, List.set_cons_zero, List.set_cons_succ]))
          (refine wpAnyH_take (i := 17) (v := ?_) rfl (by kernel_rfl) (by kernel_rfl) (by kernel_rfl) (fun _ _ _ h => h) (Or.inl ⟨by rfl, ?_⟩) hHeld ?_
           rotate_left
           focus (intro w9 hSw; (try dsimp only at hSw); go_simp; first | done | with_reducible rfl)
           (try simp only [Act.put, List.setIfInBounds_toArray, List.set_cons_zero, List.set_cons_succ]))
          (refine wpAnyH_take (i := 18) (v := ?_) rfl (by kernel_rfl) (by kernel_rfl) (by kernel_rfl) (fun _ _ _ h => h) (Or.inl ⟨by rfl, ?_⟩) hHeld ?_
           rotate_left
           focus (intro w9 hSw; (try dsimp only at hSw); go_simp; first | done | with_reducible rfl)
           (try simp only [Act.put, List.setIfInBounds_toArray, List.set_cons_zero, List.set_cons_succ]))
          (refine wpAnyH_take (i := 19) (v := ?_) rfl (by kernel_rfl) (by kernel_rfl) (by kernel_rfl) (fun _ _ _ h => h) (Or.inl ⟨by rfl, ?_⟩) hHeld ?_
           rotate_left
           focus (intro w9 hSw; (try dsimp only at hSw); go_simp; first | done | with_reducible rfl)
           (try simp only [Act.put, List.setIfInBounds_toArray, List.set_cons_zero, List.set_cons_succ]))
          (refine wpAnyH_take (i := 20) (v := ?_) rfl (by kernel_rfl) (by kernel_rfl) (by kernel_rfl) (fun _ _ _ h => h) (Or.inl ⟨by rfl, ?_⟩) hHeld ?_
           rotate_left
           focus (intro w9 hSw; (try dsimp only at hSw); go_simp; first | done | with_reducible rfl)
           (try simp only [Act.put, List.setIfInBounds_toArray, List.set_cons_zero, List.set_cons_succ]))
          refine wpAnyH_ready (rs := [1, 21]) (by kernel_rfl) (by simp) (AllReadyH.cons rfl (fun K hK => ?_) (AllReadyH.cons rfl (fun K hK => ?_) AllReadyH.nil))
          · (focus
              go_simp
              (refine hK.out _ _ ?_ (fun hHeld => ?_)
               focus (first | exact hs0 | exact hHeld | exact HS.out _ hb7 | exact HS.out _ h78.below | (refine HS.out _ ?_; (repeat (first | with_reducible exact Below.refl _ _ | with_reducible assumption | with_reducible refine below_drewN0 ?_ _ | with_reducible refine Below.drew ?_ | with_reducible refine Below.alloc ?_ ?_ _ | with_reducible refine Below.setCell ?_ ?_ _ | go_size | exact Below.size (by assumption))); done))
               clear hK K
               (try simp only [Act.put, List.setIfInBounds_toArray, List.set_cons_zero, List.set_cons_succ]))
              (refine wpAnyH_ready (rs := [21]) (by kernel_rfl) (by simp) (AllReadyH.cons rfl (fun K hK => ?_) AllReadyH.nil)
               go_simp
               (refine hK.out _ _ ?_ (fun hHeld => ?_)
                focus (first | exact hs0 | exact hHeld | exact HS.out _ hb7 | exact HS.out _ h78.below | (refine HS.out _ ?_; (repeat (first | with_reducible exact Below.refl _ _ | with_reducible assumption | with_reducible refine below_drewN0 ?_ _ | with_reducible refine Below.drew ?_ | with_reducible refine Below.alloc ?_ ?_ _ | with_reducible refine Below.setCell ?_ ?_ _ | go_size | exact Below.size (by assumption))); done))
                clear hK K
                (try simp only [Act.put, List.setIfInBounds_toArray, List.set_cons_zero, List.set_cons_succ])))
              refine wpAnyH_ready (rs := [22]) (by kernel_rfl) (by simp) (AllReadyH.cons rfl (fun K hK => ?_) AllReadyH.nil)
              (refine step_app EI_edge rfl (.tmp 24) (.tmp 44) rfl W3.heap.size (.slice A' L.length c') L.length (pcells L) rfl ?_ (some ⟨_, 0, none⟩) 1 1 [.int .i64 (x + n), .int .i64 (y + n)] rfl ?_ rfl (by simp [Value.oneCell']) ?_ ?_ ?_
               · exact own_below0 hB.out.own (by (repeat (first | with_reducible exact Below.refl _ _ | with_reducible assumption | with_reducible refine below_drewN0 ?_ _ | with_reducible refine Below.drew ?_ | with_reducible refine Below.alloc ?_ ?_ _ | with_reducible refine Below.setCell ?_ ?_ _ | go_size | exact Below.size (by assumption))))
               · first | exact reads_new _ [_, _] _ | exact reads_new' _ _ [_, _] _
               · omega
               · go_size
               intro v7 w7 hown7 hg7 hat7
               obtain ⟨A7, c7, rfl, hc7, _⟩ := own_reads0 hown7
               have h79 := hB.out.at7 (by (repeat (first | with_reducible exact Below.refl _ _ | with_reducible assumption | with_reducible refine below_drewN0 ?_ _ | with_reducible refine Below.drew ?_ | with_reducible refine Below.alloc ?_ ?_ _ | with_reducible refine Below.setCell ?_ ?_ _ | go_size | exact Below.size (by assumption)))) hg7
               obtain ⟨p0, p1, p2, p3, p4⟩ := blk2 h79
               have hb7 : Below W3.heap.size W3 w7 := below_app (by (repeat (first | with_reducible exact Below.refl _ _ | with_reducible assumption | with_reducible refine below_drewN0 ?_ _ | with_reducible refine Below.drew ?_ | with_reducible refine Below.alloc ?_ ?_ _ | with_reducible refine Below.setCell ?_ ?_ _ | go_size | exact Below.size (by assumption)))) hg7 (by go_size) (fun g hg => (own_lt0 hB.out.own g hg).1)
               have h78 := hB.out.next (by (repeat (first | with_reducible exact Below.refl _ _ | with_reducible assumption | with_reducible refine below_drewN0 ?_ _ | with_reducible refine Below.drew ?_ | with_reducible refine Below.alloc ?_ ?_ _ | with_reducible refine Below.setCell ?_ ?_ _ | go_size | exact Below.size (by assumption)))) hown7 hg7 hat7)
              (refine hK.out _ _ ?_ (fun hHeld => ?_)
               focus (first | exact hs0 | exact hHeld | exact HS.out _ hb7 | exact HS.out _ h78.below | (refine HS.out _ ?_; (repeat (first | with_reducible exact Below.refl _ _ | with_reducible assumption | with_reducible refine below_drewN0 ?_ _ | with_reducible refine Below.drew ?_ | with_reducible refine Below.alloc ?_ ?_ _ | with_reducible refine Below.setCell ?_ ?_ _ | go_size | exact Below.size (by assumption))); done))
               clear hK K
               (try simp only [Act.put, List.setIfInBounds_toArray, List.set_cons_zero, List.set_cons_succ]))
              (refine wpAnyH_take (i := 23) (v := ?_) rfl (by kernel_rfl) (by kernel_rfl) (by kernel_rfl) (fun _ _ _ h => h) (Or.inl ⟨by rfl, ?_⟩) hHeld ?_
               rotate_left
               focus (intro w9 hSw; (try dsimp only at hSw); go_simp; first | done | with_reducible rfl)
               (try simp only [Act.put, List.setIfInBounds_toArray, List.set_cons_zero, List.set_cons_succ]))
              (refine wpAnyH_ready (rs := [24]) (by kernel_rfl) (by simp) (AllReadyH.cons rfl (fun K hK => ?_) AllReadyH.nil)
               go_simp
               (refine hK.out _ _ ?_ (fun hHeld => ?_)
                focus (first | exact hs0 | exact hHeld | exact HS.out _ hb7 | exact HS.out _ h78.below | (refine HS.out _ ?_; (repeat (first | with_reducible exact Below.refl _ _ | with_reducible assumption | with_reducible refine below_drewN0 ?_ _ | with_reducible refine Below.drew ?_ | with_reducible refine Below.alloc ?_ ?_ _ | with_reducible refine Below.setCell ?_ ?_ _ | go_size | exact Below.size (by assumption))); done))
                clear hK K
                (try simp only [Act.put, List.setIfInBounds_toArray, List.set_cons_zero, List.set_cons_succ])))
              refine wpAnyH_done (by kernel_rfl) ?_ _
              go_wp2_with fail
              go_meet
              exact ⟨A7, c7, Lib.hid h78, hc7⟩)
          · (focus
              go_simp
              (refine hK.out _ _ ?_ (fun hHeld => ?_)
               focus (first | exact hs0 | exact hHeld | exact HS.out _ hb7 | exact HS.out _ h78.below | (refine HS.out _ ?_; (repeat (first | with_reducible exact Below.refl _ _ | with_reducible assumption | with_reducible refine below_drewN0 ?_ _ | with_reducible refine Below.drew ?_ | with_reducible refine Below.alloc ?_ ?_ _ | with_reducible refine Below.setCell ?_ ?_ _ | go_size | exact Below.size (by assumption))); done))
               clear hK K
               (try simp only [Act.put, List.setIfInBounds_toArray, List.set_cons_zero, List.set_cons_succ]))
              (refine wpAnyH_ready (rs := [1]) (by kernel_rfl) (by simp) (AllReadyH.cons rfl (fun K hK => ?_) AllReadyH.nil)
               go_simp
               (refine hK.out _ _ ?_ (fun hHeld => ?_)
                focus (first | exact hs0 | exact hHeld | exact HS.out _ hb7 | exact HS.out _ h78.below | (refine HS.out _ ?_; (repeat (first | with_reducible exact Below.refl _ _ | with_reducible assumption | with_reducible refine below_drewN0 ?_ _ | with_reducible refine Below.drew ?_ | with_reducible refine Below.alloc ?_ ?_ _ | with_reducible refine Below.setCell ?_ ?_ _ | go_size | exact Below.size (by assumption))); done))
                clear hK K
                (try simp only [Act.put, List.setIfInBounds_toArray, List.set_cons_zero, List.set_cons_succ])))
              refine wpAnyH_ready (rs := [22]) (by kernel_rfl) (by simp) (AllReadyH.cons rfl (fun K hK => ?_) AllReadyH.nil)
              (refine step_app EI_edge rfl (.tmp 24) (.tmp 44) rfl W3.heap.size (.slice A' L.length c') L.length (pcells L) rfl ?_ (some ⟨_, 0, none⟩) 1 1 [.int .i64 (x + n), .int .i64 (y + n)] rfl ?_ rfl (by simp [Value.oneCell']) ?_ ?_ ?_
               · exact own_below0 hB.out.own (by (repeat (first | with_reducible exact Below.refl _ _ | with_reducible assumption | with_reducible refine below_drewN0 ?_ _ | with_reducible refine Below.drew ?_ | with_reducible refine Below.alloc ?_ ?_ _ | with_reducible refine Below.setCell ?_ ?_ _ | go_size | exact Below.size (by assumption))))
               · first | exact reads_new _ [_, _] _ | exact reads_new' _ _ [_, _] _
               · omega
               · go_size
               intro v7 w7 hown7 hg7 hat7
               obtain ⟨A7, c7, rfl, hc7, _⟩ := own_reads0 hown7
               have h79 := hB.out.at7 (by (repeat (first | with_reducible exact Below.refl _ _ | with_reducible assumption | with_reducible refine below_drewN0 ?_ _ | with_reducible refine Below.drew ?_ | with_reducible refine Below.alloc ?_ ?_ _ | with_reducible refine Below.setCell ?_ ?_ _ | go_size | exact Below.size (by assumption)))) hg7
               obtain ⟨p0, p1, p2, p3, p4⟩ := blk2 h79
               have hb7 : Below W3.heap.size W3 w7 := below_app (by (repeat (first | with_reducible exact Below.refl _ _ | with_reducible assumption | with_reducible refine below_drewN0 ?_ _ | with_reducible refine Below.drew ?_ | with_reducible refine Below.alloc ?_ ?_ _ | with_reducible refine Below.setCell ?_ ?_ _ | go_size | exact Below.size (by assumption)))) hg7 (by go_size) (fun g hg => (own_lt0 hB.out.own g hg).1)
               have h78 := hB.out.next (by (repeat (first | with_reducible exact Below.refl _ _ | with_reducible assumption | with_reducible refine below_drewN0 ?_ _ | with_reducible refine Below.drew ?_ | with_reducible refine Below.alloc ?_ ?_ _ | with_reducible refine Below.setCell ?_ ?_ _ | go_size | exact Below.size (by assumption)))) hown7 hg7 hat7)
              (refine hK.out _ _ ?_ (fun hHeld => ?_)
               focus (first | exact hs0 | exact hHeld | exact HS.out _ hb7 | exact HS.out _ h78.below | (refine HS.out _ ?_; (repeat (first | with_reducible exact Below.refl _ _ | with_reducible assumption | with_reducible refine below_drewN0 ?_ _ | with_reducible refine Below.drew ?_ | with_reducible refine Below.alloc ?_ ?_ _ | with_reducible refine Below.setCell ?_ ?_ _ | go_size | exact Below.size (by assumption))); done))
               clear hK K
               (try simp only [Act.put, List.setIfInBounds_toArray, List.set_cons_zero, List.set_cons_succ]))
              (refine wpAnyH_take (i := 23) (v := ?_) rfl (by kernel_rfl) (by kernel_rfl) (by kernel_rfl) (fun _ _ _ h => h) (Or.inl ⟨by rfl, ?_⟩) hHeld ?_
               rotate_left
               focus (intro w9 hSw; (try dsimp only at hSw); go_simp; first | done | with_reducible rfl)
               (try simp only [Act.put, List.setIfInBounds_toArray, List.set_cons_zero, List.set_cons_succ]))
              (refine wpAnyH_ready (rs := [24]) (by kernel_rfl) (by simp) (AllReadyH.cons rfl (fun K hK => ?_) AllReadyH.nil)
               go_simp
               (refine hK.out _ _ ?_ (fun hHeld => ?_)
                focus (first | exact hs0 | exact hHeld | exact HS.out _ hb7 | exact HS.out _ h78.below | (refine HS.out _ ?_; (repeat (first | with_reducible exact Below.refl _ _ | with_reducible assumption | with_reducible refine below_drewN0 ?_ _ | with_reducible refine Below.drew ?_ | with_reducible refine Below.alloc ?_ ?_ _ | with_reducible refine Below.setCell ?_ ?_ _ | go_size | exact Below.size (by assumption))); done))
                clear hK K
                (try simp only [Act.put, List.setIfInBounds_toArray, List.set_cons_zero, List.set_cons_succ])))
              refine wpAnyH_done (by kernel_rfl) ?_ _
              go_wp2_with fail
              go_meet
              exact ⟨A7, c7, Lib.hid h78, hc7⟩)
        case rest =>
          obtain ⟨A7, c7, hB7, hc7⟩ := hcut
          go_wp2_with fail
          exact ⟨⟨j + 1, _, A7, c7, by go_num, by omega, HLN, hB7, by simp; omega⟩, by simp [intOf]; omega⟩
      · obtain rfl : j = hs.length := by omega
        have i1 : ¬ (hs.length : Int) < (hs.length : Int) := by omega
        have hx4 := HX4.out.go hbw
        obtain ⟨u0, u1, u2, u3, u4⟩ := blk2 hx4.blk
        have hLe : L = besL n es hs := by rw [hL.out, List.take_length]; rfl
        have hb4 : b4 < W3.heap.size := HX4.out.lt
        have hrd : Reads wr A' (pcells L) := (own_reads1 hB.out.own).1
        have hAb : ∀ q, A' = some q → W3.heap.size ≤ q.block := fun q hq => by subst hq; exact (own_lt0 hB.out.own q.block rfl).1
        have HE := Lib.hid (And.intro hLe (And.intro hb4 (And.intro hrd (And.intro hAb hx4.below))))
        clear hLe hrd hAb hx4
        go_wp2_with fail
        have hE := HE.out
        have hX4s := (HX4.out.go hbw).set (by have := HBB.out; omega) (.int .i64 (n + m)) (.slice A' L.length c')
        have u0 := hX4s.c0
        have u1 := hX4s.c1
        refine bodyPost_ret (v := .agg #[.int .i64 (n + m), .slice A' L.length c']) (by simp [results, Try.results60, go_sem, u0, u1]) rfl ?_
        rw [← hE.1]
        exact ⟨A', c', rfl, hc', (hE.2.2.1.setFar (fun q hq e => by have h1 := hE.2.2.2.1 q hq; have h2 := hE.2.1; omega) _ _).setFar (fun q hq e => by have h1 := hE.2.2.2.1 q hq; have h2 := hE.2.1; omega) _ _, hX4s.below⟩
end Go.Proofs.Ytgddfmfiiodgbaa

/- CriticalBeside, walked. -/
namespace Go.Proofs.Ytgddfmfiiodgbaa
open Go Go.RowKit
set_option maxRecDepth 100000
set_option linter.unusedVariables false
set_option linter.unusedSimpArgs false

/-- A graph in its block. -/
structure GB1 (w : World) (b : Nat) (n : Int) (es : List (Int × Int)) (A : Option Addr) (c : Nat) (wc : World) : Prop where
  box : Box2 w b (.int .i64 n) (.slice A es.length c) 25 wc
  rd : Reads wc A (pcells es)
  cap : es.length ≤ c
theorem GB1.go {w wc wd : World} {b : Nat} {n : Int} {es : List (Int × Int)} {A : Option Addr} {c : Nat} (h : GB1 w b n es A c wc) (hb : Below wc.heap.size wc wd) : GB1 w b n es A c wd := ⟨h.box.go hb, h.rd.below hb, h.cap⟩
theorem GB1.new {w wc : World} {n : Int} {es : List (Int × Int)} {A : Option Addr} {c : Nat} (h : Below w.heap.size w wc) (hr : Reads wc A (pcells es)) (hc : es.length ≤ c) : GB1 w wc.heap.size n es A c (wc.alloc (.cells #[.int .i64 n, .slice A es.length c] 25)) :=
  ⟨Box2.new h _ _ _, hr.below ((Below.refl _ _).alloc (Nat.le_refl _) _), hc⟩

theorem besL_ok {n m : Nat} {es hs : List (Int × Int)} (h1 : RightP n es) (h2 : RightP m hs) {u v : Nat} (h : adjE (besL n es hs) u v) : u < n ↔ v < n := by
  have key : ∀ x y : Nat, ((x : Int), (y : Int)) ∈ besL n es hs → (x < n ↔ y < n) := by
    intro x y hm
    rcases List.mem_append.1 hm with hm | hm
    · have := h1.ok _ hm
      simp only at this
      omega
    · obtain ⟨e, he, heq⟩ := List.mem_map.1 hm
      have := h2.ok _ he
      simp only [shE, Prod.mk.injEq] at heq
      omega
  rcases h with h | h
  · exact (key _ _ h).symm
  · exact key _ _ h
theorem bes_not {n m : Nat} {es hs : List (Int × Int)} (h1 : RightP n es) (h2 : RightP m hs) (hn : 0 < n) (hm : 0 < m) : critB ((n : Int) + (m : Int)) (besL n es hs) = false := by
  have e : (n : Int) + (m : Int) = ((n + m : Nat) : Int) := by omega
  rw [e]
  exact critB_not fun hP => beside_not (right_gr hP) hn hm fun u v h => besL_ok h1 h2 h
theorem crit_put {n : Nat} {es : List (Int × Int)} {a b : Int} (h : critB n es = true) (he : addErr n es a b = 0) : critB n (putE es (min a b, max a b)) = true := by
  have h1 := addErr_zero he
  refine critB_of h1.2.1 ((critB_iff.1 h).2.more fun u v huv => ?_)
  rcases huv with huv | huv
  · exact .inl ((mem_putE _ _ _).2 (.inr huv))
  · exact .inr ((mem_putE _ _ _).2 (.inr huv))



set_option maxHeartbeats 2000000 in
theorem cbeside_any (n0 m0 a b : Int) (ends more : List Int) (A1 A2 : Option Addr) (c1 c2 : Nat) (w : World) (hn1 : -9223372036854775808 ≤ n0) (hn2 : n0 ≤ 9223372036854775807) (hm1 : -9223372036854775808 ≤ m0) (hm2 : m0 ≤ 9223372036854775807)
    (hr1 : Reads w A1 (icells ends)) (hc1 : ends.length ≤ c1) (hl1 : ends.length ≤ 4611686018427387903) (hr2 : Reads w A2 (icells more)) (hc2 : more.length ≤ c2) (hl2 : more.length ≤ 4611686018427387903) :
    Calls Try.prog 16 #[.int .i64 n0, .int .i64 m0, .slice A1 ends.length c1, .slice A2 more.length c2, .int .i64 a, .int .i64 b] w fun e w' => e = .returned (.bool true) ∧ Below w.heap.size w w' := by
  have HS1 := small_any n0 15 40 ends A1 c1 w (by omega) (by omega) (by omega) (by omega) hn1 hn2 hr1 hc1 hl1
  have HS2 := fun W (h : Below w.heap.size w W) => small_any m0 9 20 more A2 c2 W (by omega) (by omega) (by omega) (by omega) hm1 hm2 (hr2.below h) hc2 hl2
  clear hr1 hr2
  go_enter Try.func16, Try.ntmps16
  go_upto_region 2 with (first
    | (go_at_call 31; (with_reducible refine HS1.mono ?_); rintro e w1 ⟨n, es, A, c, rfl, hP, hn15, hes, hc, hrd, hb1⟩)
    | (go_at_call 31; (with_reducible refine (HS2 w1 hb1).mono ?_); rintro e w2 ⟨m, hs, B, d, rfl, hQ, hm9, hhs, hd, hrd2, hb2⟩))
  obtain ⟨k, rfl⟩ : ∃ k : Nat, n = (k : Int) := ⟨n.toNat, by have := hP.n0; omega⟩
  obtain ⟨j, rfl⟩ : ∃ k : Nat, m = (k : Int) := ⟨m.toNat, by have := hQ.n0; omega⟩
  have hb02 : Below w.heap.size w w2 := hb1.trans (hb2.mono hb1.size)
  have hG := GB1.new hb02 (hrd.below hb2) hc (n := (k : Int))
  have hH := GB1.new (wc := w2.alloc (Obj.cells #[Value.int IntKind.i64 (k : Int), Value.slice A es.length c] 25)) hG.box.below (hrd2.below ((Below.refl _ _).alloc (Nat.le_refl _) _)) hd (n := (j : Int))
  have hG := hG.go ((Below.refl _ _).alloc (Nat.le_refl _) (.cells #[Value.int IntKind.i64 (j : Int), Value.slice B hs.length d] 25))
  rw [World.size_alloc] at hH
  generalize (w2.alloc (Obj.cells #[Value.int IntKind.i64 (k : Int), Value.slice A es.length c] 25)).alloc (Obj.cells #[Value.int IntKind.i64 (j : Int), Value.slice B hs.length d] 25) = W3 at hG hH ⊢
  obtain ⟨bh, hbh⟩ : ∃ b, b = w2.heap.size + 1 := ⟨_, rfl⟩
  rw [← hbh] at hH ⊢
  clear hbh
  obtain ⟨bg, hbg⟩ : ∃ b, b = w2.heap.size := ⟨_, rfl⟩
  rw [← hbg] at hG ⊢
  clear hbg HS1 HS2 hb02 hb1 hb2 hrd hrd2
  have HBN : Hid (0 < k → 0 < j → critB ((k : Int) + (j : Int)) (besL k es hs) = false) := fun h1 h2 => bes_not hP hQ h1 h2
  have HOK : Hid (∀ e ∈ hs, 0 ≤ e.1 ∧ e.1 ≤ 4096 ∧ 0 ≤ e.2 ∧ e.2 ≤ 4096) := fun e he => by have := hQ.ok e he; omega
  have HODD : Hid (critB k es = true → (k : Int).tmod 2 = 1) := fun h => by
    have := (critB_iff.1 h).2.odd (right_gr hP)
    rw [Int.tmod_eq_emod_of_nonneg (by omega)]
    omega
  have HPUT : Hid (critB k es = true → addErr k es a b = 0 → critB k (putE es (min a b, max a b)) = true) := fun h1 h2 => crit_put h1 h2
  have HI := is_any k es A c W3 hG.rd hc (by omega)
  have x0 := hG.box.c0
  have x1 := hG.box.c1
  have HG := Lib.hid hG
  have HH := Lib.hid hH
  clear hG hH hP hQ
  go_upto_region 3 with (go_at_call 55; (refine HI.mono ?_; rintro e w4 ⟨rfl, hb4⟩))
  clear x0 x1 HI
  have hG := HG.out.go hb4
  have hH := HH.out.go hb4
  clear HG HH
  have HP := pput_any k a b es A c w4 hG.rd hc (by omega)
  have x0 := hG.box.c0
  have x1 := hG.box.c1
  have HG := Lib.hid hG
  have HH := Lib.hid hH
  clear hG hH
  go_upto_region 4 with (go_at_call 47; (refine HP.mono ?_; rintro e w5 ⟨n', A', l', c', err, rfl, hb5, hE⟩))
  clear x0 x1 HP
  have hG := (HG.out.go hb5).go ((Below.refl _ _).alloc (Nat.le_refl _) (.cells #[.int .i64 n', .slice A' l' c'] 25))
  have hH := (HH.out.go hb5).go ((Below.refl _ _).alloc (Nat.le_refl _) (.cells #[.int .i64 n', .slice A' l' c'] 25))
  have hK := Box2.new (HG.out.go hb5).box.below (.int .i64 n') (.slice A' l' c') 25
  have hE2 : Hid (err = addErr k es a b ∧ (err = 0 → n' = k ∧ l' = (putE es (min a b, max a b)).length ∧ l' ≤ c' ∧ Reads (w5.alloc (.cells #[.int .i64 n', .slice A' l' c'] 25)) A' (pcells (putE es (min a b, max a b))))) :=
    ⟨hE.out.1, fun h => by
      obtain ⟨h1, h2, h3, h4⟩ := hE.out.2 h
      exact ⟨h1, by rw [putE_length]; exact h2, h3, ((own_reads1 h4).1).below ((Below.refl _ _).alloc (Nat.le_refl _) _)⟩⟩
  generalize w5.alloc (.cells #[.int .i64 n', .slice A' l' c'] 25) = W6 at hG hH hK hE2 ⊢
  obtain ⟨bk, hbk⟩ : ∃ b, b = w5.heap.size := ⟨_, rfl⟩
  rw [← hbk] at hK ⊢
  clear hbk HG HH hE hb5 hb4
  have HB := beside_any A B c d W6 hG.rd hc hH.rd hd (n := (k : Int)) (m := (j : Int)) (by omega) (by omega) (by omega) (by omega) HOK.out
  have x0 := hG.box.c0
  have x1 := hG.box.c1
  have x2 := hH.box.c0
  have x3 := hH.box.c1
  have HG := Lib.hid hG
  have HH := Lib.hid hH
  have HK := Lib.hid hK
  clear hG hH hK
  go_upto_region 5 with (go_at_call 60; (refine HB.mono ?_; rintro e w7 ⟨A7, c7, rfl, hc7, hrd7, hb7⟩))
  clear x0 x1 x2 x3 HB
  have hB := GB1.new (HG.out.go hb7).box.below hrd7 hc7 (n := (k : Int) + (j : Int))
  have hb8 := hb7.alloc hb7.size (.cells #[.int .i64 ((k : Int) + (j : Int)), .slice A7 (besL k es hs).length c7] 25)
  generalize w7.alloc (.cells #[.int .i64 ((k : Int) + (j : Int)), .slice A7 (besL k es hs).length c7] 25) = W8 at hB hb8 ⊢
  obtain ⟨bb, hbb⟩ : ∃ b, b = w7.heap.size := ⟨_, rfl⟩
  rw [← hbb] at hB ⊢
  have hG := HG.out.go hb8
  have hH := HH.out.go hb8
  have hK := HK.out.go hb8
  have hLb := besL_len k es hs
  have HIB := fun W (h : Below W8.heap.size W8 W) => is_any ((k : Int) + (j : Int)) (besL k es hs) A7 c7 W (hB.go h).rd hc7 (by omega)
  clear hbb HG HH HK hb7 hrd7 hLb
  have HG := Lib.hid hG
  have HH := Lib.hid hH
  have HK := Lib.hid hK
  have HB := Lib.hid hB
  clear hG hH hK hB
  by_cases h0 : err = 0
  · obtain ⟨h1, h2, h3, h4⟩ := hE2.out.2 h0
    have hE9 := hE2.out.1
    subst h0 h1 h2
    have HIK := fun W (h : Below W8.heap.size W8 W) => is_any (k : Int) (putE es (min a b, max a b)) A' c' W ((h4.below hb8).below h) h3 (by rw [putE_length]; omega)
    cases hcb : critB k es with
    | true =>
      have ho := HODD.out hcb
      rw [HPUT.out hcb hE9.symm] at HIK
      clear hcb HODD HPUT h4 hb8 hE9 hE2
      (by_cases hk0 : k = 0
       · have k1 : ((k : Int) == 0) = true := by simp [hk0]
         have k2 : decide ((k : Int) = 0) = true := by simp [hk0]
         clear hk0 HIB
         (go_wp2_with (first
           | (go_at_call 54; (with_reducible refine (awake15 _).mono ?_); rintro e v1 ⟨rfl, hv1⟩; have G1 := HG.out.go hv1; have H1 := HH.out.go hv1; have K1 := HK.out.go hv1; have B1 := HB.out.go hv1; have y0 := G1.box.c0; have y1 := G1.box.c1; have y2 := H1.box.c0; have y3 := H1.box.c1; have y4 := K1.c0; have y5 := K1.c1; have y6 := B1.box.c0; have y7 := B1.box.c1)
           | (go_at_call 55; (with_reducible refine (HIK v1 hv1).mono ?_); rintro e v2 ⟨rfl, hv2⟩; have B2 := B1.go hv2; have z0 := B2.box.c0; have z1 := B2.box.c1; have G2 := G1.go hv2; have H2 := H1.go hv2; have z2 := G2.box.c0; have z3 := H2.box.c0)
           | (go_at_call 55; (with_reducible refine (HIB v1 hv1).mono ?_); rintro e v3 ⟨rfl, hv3⟩)
           | (go_at_call 55; (with_reducible refine (HIB v2 (hv1.trans (hv2.mono hv1.size))).mono ?_); rintro e v3 ⟨rfl, hv3⟩))
          go_ret
          refine ⟨by simp, ?_⟩
          first
           | exact (HG.out.box.below.trans (hv1.mono HG.out.box.below.size)).trans ((hv2.trans (hv3.mono hv2.size)).mono (G1.box.below.size))
           | exact (HG.out.box.below.trans (hv1.mono HG.out.box.below.size)).trans (hv3.mono (G1.box.below.size))
           | exact (HG.out.box.below.trans (hv1.mono HG.out.box.below.size)).trans (hv2.mono (G1.box.below.size))
           | exact HG.out.box.below.trans (hv1.mono HG.out.box.below.size))
       · have k1 : ((k : Int) == 0) = false := by simp; omega
         have k2 : ¬ (k : Int) = 0 := by omega
         by_cases hj0 : j = 0
         · have k3 : ((j : Int) == 0) = true := by simp [hj0]
           have k4 : decide ((j : Int) = 0) = true := by simp [hj0]
           clear hj0 HIB
           (go_wp2_with (first
             | (go_at_call 54; (with_reducible refine (awake15 _).mono ?_); rintro e v1 ⟨rfl, hv1⟩; have G1 := HG.out.go hv1; have H1 := HH.out.go hv1; have K1 := HK.out.go hv1; have B1 := HB.out.go hv1; have y0 := G1.box.c0; have y1 := G1.box.c1; have y2 := H1.box.c0; have y3 := H1.box.c1; have y4 := K1.c0; have y5 := K1.c1; have y6 := B1.box.c0; have y7 := B1.box.c1)
             | (go_at_call 55; (with_reducible refine (HIK v1 hv1).mono ?_); rintro e v2 ⟨rfl, hv2⟩; have B2 := B1.go hv2; have z0 := B2.box.c0; have z1 := B2.box.c1; have G2 := G1.go hv2; have H2 := H1.go hv2; have z2 := G2.box.c0; have z3 := H2.box.c0)
             | (go_at_call 55; (with_reducible refine (HIB v1 hv1).mono ?_); rintro e v3 ⟨rfl, hv3⟩)
             | (go_at_call 55; (with_reducible refine (HIB v2 (hv1.trans (hv2.mono hv1.size))).mono ?_); rintro e v3 ⟨rfl, hv3⟩))
            go_ret
            refine ⟨by simp, ?_⟩
            first
             | exact (HG.out.box.below.trans (hv1.mono HG.out.box.below.size)).trans ((hv2.trans (hv3.mono hv2.size)).mono (G1.box.below.size))
             | exact (HG.out.box.below.trans (hv1.mono HG.out.box.below.size)).trans (hv3.mono (G1.box.below.size))
             | exact (HG.out.box.below.trans (hv1.mono HG.out.box.below.size)).trans (hv2.mono (G1.box.below.size))
             | exact HG.out.box.below.trans (hv1.mono HG.out.box.below.size))
         · have k3 : ((j : Int) == 0) = false := by simp; omega
           have k4 : ¬ (j : Int) = 0 := by omega
           have hbn := HBN.out (by omega) (by omega)
           rw [hbn] at HIB
           (go_wp2_with (first
             | (go_at_call 54; (with_reducible refine (awake15 _).mono ?_); rintro e v1 ⟨rfl, hv1⟩; have G1 := HG.out.go hv1; have H1 := HH.out.go hv1; have K1 := HK.out.go hv1; have B1 := HB.out.go hv1; have y0 := G1.box.c0; have y1 := G1.box.c1; have y2 := H1.box.c0; have y3 := H1.box.c1; have y4 := K1.c0; have y5 := K1.c1; have y6 := B1.box.c0; have y7 := B1.box.c1)
             | (go_at_call 55; (with_reducible refine (HIK v1 hv1).mono ?_); rintro e v2 ⟨rfl, hv2⟩; have B2 := B1.go hv2; have z0 := B2.box.c0; have z1 := B2.box.c1; have G2 := G1.go hv2; have H2 := H1.go hv2; have z2 := G2.box.c0; have z3 := H2.box.c0)
             | (go_at_call 55; (with_reducible refine (HIB v1 hv1).mono ?_); rintro e v3 ⟨rfl, hv3⟩)
             | (go_at_call 55; (with_reducible refine (HIB v2 (hv1.trans (hv2.mono hv1.size))).mono ?_); rintro e v3 ⟨rfl, hv3⟩))
            go_ret
            refine ⟨by simp, ?_⟩
            first
             | exact (HG.out.box.below.trans (hv1.mono HG.out.box.below.size)).trans ((hv2.trans (hv3.mono hv2.size)).mono (G1.box.below.size))
             | exact (HG.out.box.below.trans (hv1.mono HG.out.box.below.size)).trans (hv3.mono (G1.box.below.size))
             | exact (HG.out.box.below.trans (hv1.mono HG.out.box.below.size)).trans (hv2.mono (G1.box.below.size))
             | exact HG.out.box.below.trans (hv1.mono HG.out.box.below.size)))
    | false =>
      clear hcb HODD HPUT h4 hb8 hE9 hE2
      (by_cases hk0 : k = 0
       · have k1 : ((k : Int) == 0) = true := by simp [hk0]
         have k2 : decide ((k : Int) = 0) = true := by simp [hk0]
         clear hk0 HIB
         (go_wp2_with (first
           | (go_at_call 54; (with_reducible refine (awake15 _).mono ?_); rintro e v1 ⟨rfl, hv1⟩; have G1 := HG.out.go hv1; have H1 := HH.out.go hv1; have K1 := HK.out.go hv1; have B1 := HB.out.go hv1; have y0 := G1.box.c0; have y1 := G1.box.c1; have y2 := H1.box.c0; have y3 := H1.box.c1; have y4 := K1.c0; have y5 := K1.c1; have y6 := B1.box.c0; have y7 := B1.box.c1)
           | (go_at_call 55; (with_reducible refine (HIK v1 hv1).mono ?_); rintro e v2 ⟨rfl, hv2⟩; have B2 := B1.go hv2; have z0 := B2.box.c0; have z1 := B2.box.c1; have G2 := G1.go hv2; have H2 := H1.go hv2; have z2 := G2.box.c0; have z3 := H2.box.c0)
           | (go_at_call 55; (with_reducible refine (HIB v1 hv1).mono ?_); rintro e v3 ⟨rfl, hv3⟩)
           | (go_at_call 55; (with_reducible refine (HIB v2 (hv1.trans (hv2.mono hv1.size))).mono ?_); rintro e v3 ⟨rfl, hv3⟩))
          go_ret
          refine ⟨by simp, ?_⟩
          first
           | exact (HG.out.box.below.trans (hv1.mono HG.out.box.below.size)).trans ((hv2.trans (hv3.mono hv2.size)).mono (G1.box.below.size))
           | exact (HG.out.box.below.trans (hv1.mono HG.out.box.below.size)).trans (hv3.mono (G1.box.below.size))
           | exact (HG.out.box.below.trans (hv1.mono HG.out.box.below.size)).trans (hv2.mono (G1.box.below.size))
           | exact HG.out.box.below.trans (hv1.mono HG.out.box.below.size))
       · have k1 : ((k : Int) == 0) = false := by simp; omega
         have k2 : ¬ (k : Int) = 0 := by omega
         by_cases hj0 : j = 0
         · have k3 : ((j : Int) == 0) = true := by simp [hj0]
           have k4 : decide ((j : Int) = 0) = true := by simp [hj0]
           clear hj0 HIB
           (go_wp2_with (first
             | (go_at_call 54; (with_reducible refine (awake15 _).mono ?_); rintro e v1 ⟨rfl, hv1⟩; have G1 := HG.out.go hv1; have H1 := HH.out.go hv1; have K1 := HK.out.go hv1; have B1 := HB.out.go hv1; have y0 := G1.box.c0; have y1 := G1.box.c1; have y2 := H1.box.c0; have y3 := H1.box.c1; have y4 := K1.c0; have y5 := K1.c1; have y6 := B1.box.c0; have y7 := B1.box.c1)
             | (go_at_call 55; (with_reducible refine (HIK v1 hv1).mono ?_); rintro e v2 ⟨rfl, hv2⟩; have B2 := B1.go hv2; have z0 := B2.box.c0; have z1 := B2.box.c1; have G2 := G1.go hv2; have H2 := H1.go hv2; have z2 := G2.box.c0; have z3 := H2.box.c0)
             | (go_at_call 55; (with_reducible refine (HIB v1 hv1).mono ?_); rintro e v3 ⟨rfl, hv3⟩)
             | (go_at_call 55; (with_reducible refine (HIB v2 (hv1.trans (hv2.mono hv1.size))).mono ?_); rintro e v3 ⟨rfl, hv3⟩))
            go_ret
            refine ⟨by simp, ?_⟩
            first
             | exact (HG.out.box.below.trans (hv1.mono HG.out.box.below.size)).trans ((hv2.trans (hv3.mono hv2.size)).mono (G1.box.below.size))
             | exact (HG.out.box.below.trans (hv1.mono HG.out.box.below.size)).trans (hv3.mono (G1.box.below.size))
             | exact (HG.out.box.below.trans (hv1.mono HG.out.box.below.size)).trans (hv2.mono (G1.box.below.size))
             | exact HG.out.box.below.trans (hv1.mono HG.out.box.below.size))
         · have k3 : ((j : Int) == 0) = false := by simp; omega
           have k4 : ¬ (j : Int) = 0 := by omega
           have hbn := HBN.out (by omega) (by omega)
           rw [hbn] at HIB
           (go_wp2_with (first
             | (go_at_call 54; (with_reducible refine (awake15 _).mono ?_); rintro e v1 ⟨rfl, hv1⟩; have G1 := HG.out.go hv1; have H1 := HH.out.go hv1; have K1 := HK.out.go hv1; have B1 := HB.out.go hv1; have y0 := G1.box.c0; have y1 := G1.box.c1; have y2 := H1.box.c0; have y3 := H1.box.c1; have y4 := K1.c0; have y5 := K1.c1; have y6 := B1.box.c0; have y7 := B1.box.c1)
             | (go_at_call 55; (with_reducible refine (HIK v1 hv1).mono ?_); rintro e v2 ⟨rfl, hv2⟩; have B2 := B1.go hv2; have z0 := B2.box.c0; have z1 := B2.box.c1; have G2 := G1.go hv2; have H2 := H1.go hv2; have z2 := G2.box.c0; have z3 := H2.box.c0)
             | (go_at_call 55; (with_reducible refine (HIB v1 hv1).mono ?_); rintro e v3 ⟨rfl, hv3⟩)
             | (go_at_call 55; (with_reducible refine (HIB v2 (hv1.trans (hv2.mono hv1.size))).mono ?_); rintro e v3 ⟨rfl, hv3⟩))
            go_ret
            refine ⟨by simp, ?_⟩
            first
             | exact (HG.out.box.below.trans (hv1.mono HG.out.box.below.size)).trans ((hv2.trans (hv3.mono hv2.size)).mono (G1.box.below.size))
             | exact (HG.out.box.below.trans (hv1.mono HG.out.box.below.size)).trans (hv3.mono (G1.box.below.size))
             | exact (HG.out.box.below.trans (hv1.mono HG.out.box.below.size)).trans (hv2.mono (G1.box.below.size))
             | exact HG.out.box.below.trans (hv1.mono HG.out.box.below.size)))
  · have j1 : (err == 0) = false := by rw [beq_eq_false_iff_ne]; exact h0
    have j2 : (err != 0) = true := by simp [h0]
    have j3 : decide (err = 0) = false := decide_eq_false h0
    cases hcb : critB k es with
    | true =>
      have ho := HODD.out hcb
      clear hcb HODD HPUT hb8 hE2
      (by_cases hk0 : k = 0
       · have k1 : ((k : Int) == 0) = true := by simp [hk0]
         have k2 : decide ((k : Int) = 0) = true := by simp [hk0]
         clear hk0 HIB
         (go_wp2_with (first
           | (go_at_call 54; (with_reducible refine (awake15 _).mono ?_); rintro e v1 ⟨rfl, hv1⟩; have G1 := HG.out.go hv1; have H1 := HH.out.go hv1; have K1 := HK.out.go hv1; have B1 := HB.out.go hv1; have y0 := G1.box.c0; have y1 := G1.box.c1; have y2 := H1.box.c0; have y3 := H1.box.c1; have y4 := K1.c0; have y5 := K1.c1; have y6 := B1.box.c0; have y7 := B1.box.c1)
           | (go_at_call 55; (with_reducible refine (HIK v1 hv1).mono ?_); rintro e v2 ⟨rfl, hv2⟩; have B2 := B1.go hv2; have z0 := B2.box.c0; have z1 := B2.box.c1; have G2 := G1.go hv2; have H2 := H1.go hv2; have z2 := G2.box.c0; have z3 := H2.box.c0)
           | (go_at_call 55; (with_reducible refine (HIB v1 hv1).mono ?_); rintro e v3 ⟨rfl, hv3⟩)
           | (go_at_call 55; (with_reducible refine (HIB v2 (hv1.trans (hv2.mono hv1.size))).mono ?_); rintro e v3 ⟨rfl, hv3⟩))
          go_ret
          refine ⟨by simp, ?_⟩
          first
           | exact (HG.out.box.below.trans (hv1.mono HG.out.box.below.size)).trans ((hv2.trans (hv3.mono hv2.size)).mono (G1.box.below.size))
           | exact (HG.out.box.below.trans (hv1.mono HG.out.box.below.size)).trans (hv3.mono (G1.box.below.size))
           | exact (HG.out.box.below.trans (hv1.mono HG.out.box.below.size)).trans (hv2.mono (G1.box.below.size))
           | exact HG.out.box.below.trans (hv1.mono HG.out.box.below.size))
       · have k1 : ((k : Int) == 0) = false := by simp; omega
         have k2 : ¬ (k : Int) = 0 := by omega
         by_cases hj0 : j = 0
         · have k3 : ((j : Int) == 0) = true := by simp [hj0]
           have k4 : decide ((j : Int) = 0) = true := by simp [hj0]
           clear hj0 HIB
           (go_wp2_with (first
             | (go_at_call 54; (with_reducible refine (awake15 _).mono ?_); rintro e v1 ⟨rfl, hv1⟩; have G1 := HG.out.go hv1; have H1 := HH.out.go hv1; have K1 := HK.out.go hv1; have B1 := HB.out.go hv1; have y0 := G1.box.c0; have y1 := G1.box.c1; have y2 := H1.box.c0; have y3 := H1.box.c1; have y4 := K1.c0; have y5 := K1.c1; have y6 := B1.box.c0; have y7 := B1.box.c1)
             | (go_at_call 55; (with_reducible refine (HIK v1 hv1).mono ?_); rintro e v2 ⟨rfl, hv2⟩; have B2 := B1.go hv2; have z0 := B2.box.c0; have z1 := B2.box.c1; have G2 := G1.go hv2; have H2 := H1.go hv2; have z2 := G2.box.c0; have z3 := H2.box.c0)
             | (go_at_call 55; (with_reducible refine (HIB v1 hv1).mono ?_); rintro e v3 ⟨rfl, hv3⟩)
             | (go_at_call 55; (with_reducible refine (HIB v2 (hv1.trans (hv2.mono hv1.size))).mono ?_); rintro e v3 ⟨rfl, hv3⟩))
            go_ret
            refine ⟨by simp, ?_⟩
            first
             | exact (HG.out.box.below.trans (hv1.mono HG.out.box.below.size)).trans ((hv2.trans (hv3.mono hv2.size)).mono (G1.box.below.size))
             | exact (HG.out.box.below.trans (hv1.mono HG.out.box.below.size)).trans (hv3.mono (G1.box.below.size))
             | exact (HG.out.box.below.trans (hv1.mono HG.out.box.below.size)).trans (hv2.mono (G1.box.below.size))
             | exact HG.out.box.below.trans (hv1.mono HG.out.box.below.size))
         · have k3 : ((j : Int) == 0) = false := by simp; omega
           have k4 : ¬ (j : Int) = 0 := by omega
           have hbn := HBN.out (by omega) (by omega)
           rw [hbn] at HIB
           (go_wp2_with (first
             | (go_at_call 54; (with_reducible refine (awake15 _).mono ?_); rintro e v1 ⟨rfl, hv1⟩; have G1 := HG.out.go hv1; have H1 := HH.out.go hv1; have K1 := HK.out.go hv1; have B1 := HB.out.go hv1; have y0 := G1.box.c0; have y1 := G1.box.c1; have y2 := H1.box.c0; have y3 := H1.box.c1; have y4 := K1.c0; have y5 := K1.c1; have y6 := B1.box.c0; have y7 := B1.box.c1)
             | (go_at_call 55; (with_reducible refine (HIK v1 hv1).mono ?_); rintro e v2 ⟨rfl, hv2⟩; have B2 := B1.go hv2; have z0 := B2.box.c0; have z1 := B2.box.c1; have G2 := G1.go hv2; have H2 := H1.go hv2; have z2 := G2.box.c0; have z3 := H2.box.c0)
             | (go_at_call 55; (with_reducible refine (HIB v1 hv1).mono ?_); rintro e v3 ⟨rfl, hv3⟩)
             | (go_at_call 55; (with_reducible refine (HIB v2 (hv1.trans (hv2.mono hv1.size))).mono ?_); rintro e v3 ⟨rfl, hv3⟩))
            go_ret
            refine ⟨by simp, ?_⟩
            first
             | exact (HG.out.box.below.trans (hv1.mono HG.out.box.below.size)).trans ((hv2.trans (hv3.mono hv2.size)).mono (G1.box.below.size))
             | exact (HG.out.box.below.trans (hv1.mono HG.out.box.below.size)).trans (hv3.mono (G1.box.below.size))
             | exact (HG.out.box.below.trans (hv1.mono HG.out.box.below.size)).trans (hv2.mono (G1.box.below.size))
             | exact HG.out.box.below.trans (hv1.mono HG.out.box.below.size)))
    | false =>
      clear hcb HODD HPUT hb8 hE2
      (by_cases hk0 : k = 0
       · have k1 : ((k : Int) == 0) = true := by simp [hk0]
         have k2 : decide ((k : Int) = 0) = true := by simp [hk0]
         clear hk0 HIB
         (go_wp2_with (first
           | (go_at_call 54; (with_reducible refine (awake15 _).mono ?_); rintro e v1 ⟨rfl, hv1⟩; have G1 := HG.out.go hv1; have H1 := HH.out.go hv1; have K1 := HK.out.go hv1; have B1 := HB.out.go hv1; have y0 := G1.box.c0; have y1 := G1.box.c1; have y2 := H1.box.c0; have y3 := H1.box.c1; have y4 := K1.c0; have y5 := K1.c1; have y6 := B1.box.c0; have y7 := B1.box.c1)
           | (go_at_call 55; (with_reducible refine (HIK v1 hv1).mono ?_); rintro e v2 ⟨rfl, hv2⟩; have B2 := B1.go hv2; have z0 := B2.box.c0; have z1 := B2.box.c1; have G2 := G1.go hv2; have H2 := H1.go hv2; have z2 := G2.box.c0; have z3 := H2.box.c0)
           | (go_at_call 55; (with_reducible refine (HIB v1 hv1).mono ?_); rintro e v3 ⟨rfl, hv3⟩)
           | (go_at_call 55; (with_reducible refine (HIB v2 (hv1.trans (hv2.mono hv1.size))).mono ?_); rintro e v3 ⟨rfl, hv3⟩))
          go_ret
          refine ⟨by simp, ?_⟩
          first
           | exact (HG.out.box.below.trans (hv1.mono HG.out.box.below.size)).trans ((hv2.trans (hv3.mono hv2.size)).mono (G1.box.below.size))
           | exact (HG.out.box.below.trans (hv1.mono HG.out.box.below.size)).trans (hv3.mono (G1.box.below.size))
           | exact (HG.out.box.below.trans (hv1.mono HG.out.box.below.size)).trans (hv2.mono (G1.box.below.size))
           | exact HG.out.box.below.trans (hv1.mono HG.out.box.below.size))
       · have k1 : ((k : Int) == 0) = false := by simp; omega
         have k2 : ¬ (k : Int) = 0 := by omega
         by_cases hj0 : j = 0
         · have k3 : ((j : Int) == 0) = true := by simp [hj0]
           have k4 : decide ((j : Int) = 0) = true := by simp [hj0]
           clear hj0 HIB
           (go_wp2_with (first
             | (go_at_call 54; (with_reducible refine (awake15 _).mono ?_); rintro e v1 ⟨rfl, hv1⟩; have G1 := HG.out.go hv1; have H1 := HH.out.go hv1; have K1 := HK.out.go hv1; have B1 := HB.out.go hv1; have y0 := G1.box.c0; have y1 := G1.box.c1; have y2 := H1.box.c0; have y3 := H1.box.c1; have y4 := K1.c0; have y5 := K1.c1; have y6 := B1.box.c0; have y7 := B1.box.c1)
             | (go_at_call 55; (with_reducible refine (HIK v1 hv1).mono ?_); rintro e v2 ⟨rfl, hv2⟩; have B2 := B1.go hv2; have z0 := B2.box.c0; have z1 := B2.box.c1; have G2 := G1.go hv2; have H2 := H1.go hv2; have z2 := G2.box.c0; have z3 := H2.box.c0)
             | (go_at_call 55; (with_reducible refine (HIB v1 hv1).mono ?_); rintro e v3 ⟨rfl, hv3⟩)
             | (go_at_call 55; (with_reducible refine (HIB v2 (hv1.trans (hv2.mono hv1.size))).mono ?_); rintro e v3 ⟨rfl, hv3⟩))
            go_ret
            refine ⟨by simp, ?_⟩
            first
             | exact (HG.out.box.below.trans (hv1.mono HG.out.box.below.size)).trans ((hv2.trans (hv3.mono hv2.size)).mono (G1.box.below.size))
             | exact (HG.out.box.below.trans (hv1.mono HG.out.box.below.size)).trans (hv3.mono (G1.box.below.size))
             | exact (HG.out.box.below.trans (hv1.mono HG.out.box.below.size)).trans (hv2.mono (G1.box.below.size))
             | exact HG.out.box.below.trans (hv1.mono HG.out.box.below.size))
         · have k3 : ((j : Int) == 0) = false := by simp; omega
           have k4 : ¬ (j : Int) = 0 := by omega
           have hbn := HBN.out (by omega) (by omega)
           rw [hbn] at HIB
           (go_wp2_with (first
             | (go_at_call 54; (with_reducible refine (awake15 _).mono ?_); rintro e v1 ⟨rfl, hv1⟩; have G1 := HG.out.go hv1; have H1 := HH.out.go hv1; have K1 := HK.out.go hv1; have B1 := HB.out.go hv1; have y0 := G1.box.c0; have y1 := G1.box.c1; have y2 := H1.box.c0; have y3 := H1.box.c1; have y4 := K1.c0; have y5 := K1.c1; have y6 := B1.box.c0; have y7 := B1.box.c1)
             | (go_at_call 55; (with_reducible refine (HIK v1 hv1).mono ?_); rintro e v2 ⟨rfl, hv2⟩; have B2 := B1.go hv2; have z0 := B2.box.c0; have z1 := B2.box.c1; have G2 := G1.go hv2; have H2 := H1.go hv2; have z2 := G2.box.c0; have z3 := H2.box.c0)
             | (go_at_call 55; (with_reducible refine (HIB v1 hv1).mono ?_); rintro e v3 ⟨rfl, hv3⟩)
             | (go_at_call 55; (with_reducible refine (HIB v2 (hv1.trans (hv2.mono hv1.size))).mono ?_); rintro e v3 ⟨rfl, hv3⟩))
            go_ret
            refine ⟨by simp, ?_⟩
            first
             | exact (HG.out.box.below.trans (hv1.mono HG.out.box.below.size)).trans ((hv2.trans (hv3.mono hv2.size)).mono (G1.box.below.size))
             | exact (HG.out.box.below.trans (hv1.mono HG.out.box.below.size)).trans (hv3.mono (G1.box.below.size))
             | exact (HG.out.box.below.trans (hv1.mono HG.out.box.below.size)).trans (hv2.mono (G1.box.below.size))
             | exact HG.out.box.below.trans (hv1.mono HG.out.box.below.size)))
end Go.Proofs.Ytgddfmfiiodgbaa
