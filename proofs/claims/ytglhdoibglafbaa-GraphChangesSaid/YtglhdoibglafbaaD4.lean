/- Walks of graph.Make at one edge. -/
import Derived.Test.YtglhdoibglafbaaD3
import Derived.Maps.OwnSet
import Derived.DeepKeys4
namespace Go.Proofs.Ytglhdoibglafbaa
open Go Go.RowKit
open Go.WideMaps (KeyLaw)
open Go.Maps (Keyed)
set_option maxRecDepth 100000
set_option linter.unusedVariables false

theorem laidOutE : laidOutB Try.prog = true := by kernel_rfl
theorem rowE : (28 : TypeId) < Try.prog.types.size := of_decide_eq_true (by kernel_rfl)
theorem cellsE : Try.prog.cellsOf 28 = 2 := by kernel_rfl
theorem cellsI : Try.prog.cellsOf 3 = 1 := by kernel_rfl
theorem wideE : (match Try.prog.underlying 28 with | some (.array _ _) | some (.struct _) => true | _ => false) = true := by rw [Try.underlying28]
theorem lawE : KeyLaw Try.prog 28 := deep_law_laid laidOutE (m := 2) (by omega) rowE (by kernel_rfl) wideE
theorem keyedE : Keyed Try.prog 28 := Keyed.of_law lawE
theorem keyTE : Try.prog.keyType 28 = true := by kernel_rfl

theorem keyE (x y : Int) (wx : (Lit.int .i64 x).wf = true) (wy : (Lit.int .i64 y).wf = true) : keyOf Try.prog 28 (.agg #[.int .i64 x, .int .i64 y]) = some (.string (keyBytes [.int .i64 x, .int .i64 y])) := by
  obtain ⟨m, hm⟩ : ∃ m, Try.prog.types.size = m + 1 := ⟨Try.prog.types.size - 1, by have : 0 < Try.prog.types.size := of_decide_eq_true (by kernel_rfl); omega⟩
  unfold keyOf
  simp only [Try.underlying28]
  rw [if_pos (by simp [keyTE, Value.formed, Try.underlying28, cellsE]), hm]
  unfold Program.keyLits
  simp only [Try.underlying28, Value.cells]
  rw [if_pos (by rw [cellsE]; simp)]
  simp [cellsI, Program.keyLits, Try.underlying3, wx, wy]

theorem wf64 (x : Int) (h1 : -9223372036854775808 ≤ x) (h2 : x ≤ 9223372036854775807) : (Lit.int .i64 x).wf = true := by
  simp [Lit.wf, IntKind.min, IntKind.max, IntKind.signed, IntKind.bits]
  omega

theorem bool_inv {v : Value} {ps : List MemPlace} {x : Bool} (h : plainElem (H := Nat) Try.prog 4 v = some (.lit (.bool x), ps)) : v = .bool x := by
  unfold plainElem at h
  rw [Try.underlying4] at h
  split at h
  · simp at h; rw [h.1]
  · simp_all
  · simp_all
  · cases h

theorem owns_far {w w' : World} {b k : Nat} {D : DataW Nat} (h : w.ownsMap Try.prog 28 (plainElem Try.prog 4) b k D) (hk : w'.heap[b]? = w.heap[b]?) : w'.ownsMap Try.prog 28 (plainElem Try.prog 4) b k D := by
  obtain ⟨es, clock, hb, r⟩ := h
  exact ⟨es, clock, hk.trans hb, r⟩

theorem wpList_look0 (w : World) {ops : Array Oper} {rest : List Oper} {o : Oper} {a : Act} {Q : Exit → Act → World → Prop}
    (hg : o.guard = none) (m x : Operand) (hop : o.op = Op.lookup 95 m x false) (b : Nat)
    (hm : a.eval m = .map (some b)) (hown : w.ownsMap Try.prog 28 (plainElem Try.prog 4) b 0 (.map [] : DataW Nat)) (key : Value) (kl : Lit) (hx : a.eval x = key) (hkey : keyOf Try.prog 28 key = some kl)
    (hK : wpList Try.prog ops Q rest (a.put o.dst (.bool false)) w) :
    wpList Try.prog ops Q (o :: rest) a w := by
  refine wpList_plain hg fun K' hK' => ?_
  obtain ⟨v, ps, hrun, hv⟩ := hown.lookup keyedE Try.underlying95 (z := .bool false) (by kernel_rfl) (zd := .lit (.bool false)) (zp := []) (plainElem_bool Try.underlying4 false) hkey
  obtain rfl := bool_inv (ps := ps) (x := false) hv
  unfold Oper.wp
  simp [execOp, hop, hm, hx, hrun, Result.andThen]
  exact hK' _ _ hK

theorem heap_set1 {w : World} {g : Nat} {a b : Value} {T : TypeId} (h : w.heap[g]? = some (.cells #[a, b] T (0, 0))) (y : Value) :
    (w.setCell ⟨g, 1, none⟩ y).heap[g]? = some (.cells #[a, y] T (0, 0)) := by
  simp [World.setCell, Array.getElem?_modify, h]

set_option maxHeartbeats 4000000 in
theorem make_1 (n a b : Int) (A : Option Addr) (c : Nat) (w : World) (hr : Reads w A (pcells [(a, b)])) (hc : 1 ≤ c) (hn0 : 0 ≤ n) (hn1 : n ≤ 4096) (x y : Int) (hx : min a b = x) (hy : max a b = y) (h0 : 0 ≤ x) (h1 : x < y) (h2 : y < n) :
    Calls Try.prog 27 #[.int .i64 n, .slice A 1 c] w fun e w' => ∃ v, e = .returned (.tuple #[.agg #[.int .i64 n, v], .int .i64 0]) ∧ w'.ownsRow w.heap.size 28 2 v 1 (pcells [(x, y)]) ∧ Below w.heap.size w w' := by
  have HE := fun W => edge_any a b W
  rw [hx, hy] at HE
  have HT := fun W => there_any n x y W
  have HT1 : (decide (0 ≤ min x y) && decide (max x y < n)) = true := by simp; omega
  rw [HT1] at HT
  have hk := keyE x y (wf64 x (by omega) (by omega)) (wf64 y (by omega) (by omega))
  have hmm := @run_makeMap Try.prog
  clear hx hy HT1
  obtain ⟨b0, o0, rfl, hbl, e1, e2⟩ := hr.pair' 0 (a, b) rfl
  simp only [Nat.zero_mul, Nat.add_zero] at e1 e2
  go_enter Try.func27, Try.ntmps27
  go_wp2_with fail
  generalize hW : ((w.alloc (Obj.cells #[Value.int IntKind.i64 0, Value.slice none 0 0] 25)).alloc (Obj.map #[] 0)).alloc (Obj.cells #[Value.int IntKind.i64 n, Value.slice none 0 0] 25) = W
  have hbW : Below w.heap.size w W := by rw [← hW]; go_grown
  have hG : Hid (W.heap[w.heap.size]? = some (.cells #[Value.int IntKind.i64 0, Value.slice none 0 0] 25 (0, 0))) := by rw [← hW]; exact Lib.hid (heap_old (heap_old (heap_alloc_new _ _)))
  have hB : Hid (W.heap[w.heap.size + 1 + 1]? = some (.cells #[Value.int IntKind.i64 n, Value.slice none 0 0] 25 (0, 0))) := by rw [← hW]; exact Lib.hid (by have h := heap_alloc_new ((w.alloc (Obj.cells #[Value.int IntKind.i64 0, Value.slice none 0 0] 25)).alloc (Obj.map #[] 0)) (Obj.cells #[Value.int IntKind.i64 n, Value.slice none 0 0] 25); rw [World.size_alloc, World.size_alloc] at h; exact h)
  have hM : W.ownsMap Try.prog 28 (plainElem Try.prog 4) (w.heap.size + 1) 0 (.map [] : DataW Nat) := by
    rw [← hW]
    have h := World.ownsMap_made (H := Nat) (w.alloc (Obj.cells #[Value.int IntKind.i64 0, Value.slice none 0 0] 25)) Try.prog 28 (plainElem Try.prog 4)
    rw [World.size_alloc] at h
    exact h.alloc _
  have hsz : W.heap.size = w.heap.size + 3 := by rw [← hW]; simp
  have e1' := (hbW.cell (p := ⟨b0, o0, none⟩) hbl).trans e1
  have e2' := (hbW.cell (p := ⟨b0, o0 + 1, none⟩) hbl).trans e2
  clear hW e1 e2 hr
  obtain ⟨p0, p1, p2, p3, p4⟩ := blk2 hB.out
  obtain ⟨q0, q1, q2, q3, q4⟩ := blk2 hG.out
  refine wp_loop_rounds 2 ?_
  rw [rounds_succ]
  go_wp2_with (first
    | (go_at_call 65; refine (HE _).mono ?_; rintro e w1 ⟨rfl, hb1⟩
       have hb1' : Below W.heap.size W w1 := Below.trans (by (repeat (first | with_reducible exact Below.refl _ _ | with_reducible assumption | with_reducible refine below_drewN0 ?_ _ | with_reducible refine Below.drew ?_ | with_reducible refine Below.alloc ?_ ?_ _ | with_reducible refine Below.setCell ?_ ?_ _ | go_size))) (hb1.mono (by simp))
       have hs1 := hb1'.size
       have hG1 := Lib.hid ((hb1'.block w.heap.size (by omega)).trans hG.out)
       have hB1 := Lib.hid ((hb1'.block (w.heap.size + 1 + 1) (by omega)).trans hB.out)
       have hM1 := (owns_far hM (hb1'.block (w.heap.size + 1) (by omega))).alloc (Obj.cells #[Value.int IntKind.i64 x, Value.int IntKind.i64 y] 28)
       obtain ⟨r0, r1, r2, r3, r4⟩ := blk2 hB1.out
       clear hb1)
    | (go_at_call 66; refine (HT _).mono ?_; rintro e w2 ⟨rfl, rfl⟩)
    | (at_lookup; refine wpList_look0 _ rfl _ _ rfl (w.heap.size + 1) rfl hM1 _ _ rfl hk ?_)
    | (at_mapUpdate; refine wpList_mapUpdate_own _ rfl _ _ _ 95 rfl 28 4 keyedE Try.underlying95 (plainElem Try.prog 4) (w.heap.size + 1) 0 (.map []) rfl hM1 (by decide) _ _ _ rfl rfl hk (.lit (.bool true)) [] (plainElem_bool Try.underlying4 true) ?_
       intro w3 hM3 hg3
       have hs3 : w1.heap.size + 1 ≤ w3.heap.size := by have := hg3.size; rw [World.size_alloc] at this; omega
       have hG3 := Lib.hid ((hg3.block w.heap.size (by simp; omega) (by simp)).trans (heap_old hG1.out))
       have hB3 := Lib.hid ((hg3.block (w.heap.size + 1 + 1) (by simp; omega) (by simp)).trans (heap_old hB1.out))
       obtain ⟨s0, s1, s2, s3, s4⟩ := blk2 ((hg3.block w1.heap.size (by simp) (by simp; omega)).trans (heap_alloc_new _ _))
       obtain ⟨t0, t1, t2, t3, t4⟩ := blk2 hB3.out
       have hb3 : Below w.heap.size w w3 := (Below.trans hbW ((hb1'.alloc (by omega) _).mono (by omega))).grown hg3 (by simp; omega) (by simp))
    | (at_builtin; refine wpList_app EI_edge rfl (.tmp 62) (.tmp 64) rfl (w.heap.size + 3) (.slice none 0 0) 0 [] rfl (own_nil0 _ _ _ _) (some ⟨_, 0, none⟩) 1 1 [.int .i64 x, .int .i64 y] rfl ?_ rfl ?_ ?_ ?_ ?_
       · exact reads_new w3 [_, _] _
       · simp [Value.oneCell']
       · omega
       · simp; omega
       intro v4 w4 hown4 hg4 hat4
       have hG4 := Lib.hid ((hg4.block w.heap.size (by simp; omega) (by simp [Value.ownBlock])).trans (heap_old hG3.out))
       have hB4 := Lib.hid ((hg4.block (w.heap.size + 1 + 1) (by simp; omega) (by simp [Value.ownBlock])).trans (heap_old hB3.out))
       obtain ⟨u0, u1, u2, u3, u4⟩ := blk2 hB4.out
       obtain ⟨x0, x1, x2, x3, x4⟩ := blk2 hG4.out
       have hb4 : Below w.heap.size w w4 := below_app (by (repeat (first | with_reducible exact Below.refl _ _ | with_reducible assumption | with_reducible refine below_drewN0 ?_ _ | with_reducible refine Below.drew ?_ | with_reducible refine Below.alloc ?_ ?_ _ | with_reducible refine Below.setCell ?_ ?_ _ | go_size))) hg4 (by simp; omega) (by simp [Value.ownBlock])
       obtain ⟨A4, c4, rfl, hl4, hrd4⟩ := own_reads0 hown4))
  have hB5 := Lib.hid (heap_set1 hB4.out (.slice A4 1 c4))
  generalize hW5 : w4.setCell ⟨w.heap.size + 1 + 1, 1, none⟩ (.slice A4 1 c4) = W5 at *
  have hG5 : Hid (W5.heap[w.heap.size]? = some (.cells #[Value.int IntKind.i64 0, Value.slice none 0 0] 25 (0, 0))) := by rw [← hW5]; exact Lib.hid (heap_far hG4.out (by simp; omega) _)
  have hown5 : W5.ownsRow (w.heap.size + 3) 28 2 (.slice A4 (0 + 1) c4) (0 + 1) ([] ++ [.int .i64 x, .int .i64 y]) := by rw [← hW5]; exact own_set hown4 (by simp) _
  have hb5 : Below w.heap.size w W5 := by rw [← hW5]; exact hb4.setCell (by simp; omega) _
  obtain ⟨y0, y1, y2, y3, y4⟩ := blk2 hB5.out
  obtain ⟨z0, z1, z2, z3, z4⟩ := blk2 hG5.out
  clear u0 u1 u2 u3 u4 x0 x1 x2 x3 x4 hB4 hG4 hown4 hrd4 hat4 hg4 hb4 hW5 s0 s1 s2 s3 s4 t0 t1 t2 t3 t4 r0 r1 r2 r3 r4 p0 p1 p2 p3 p4 q0 q1 q2 q3 q4 hB3 hG3 hg3 hM3 hB1 hG1 hM1 hM hB hG
  have HS := fun W => sort_1 A4 c4 (.func (.func 68) #[.agg #[]] #[]) W
  rw [rounds_succ]
  go_wp2_with (go_at_call 67; refine (HS _).mono ?_; rintro e w6 ⟨rfl, rfl⟩)
  refine bodyPost_ret (v := .tuple #[.agg #[.int .i64 n, .slice A4 1 c4], .int .i64 0]) (by simp [results, Try.results27, go_sem, z0, z1]) rfl ?_
  exact ⟨_, rfl, own_cast (own_set (own_set hown5 (a := ⟨w.heap.size, 0, none⟩) (by simp) _) (a := ⟨w.heap.size, 1, none⟩) (by simp) _) (by omega) rfl rfl, by (repeat (first | with_reducible exact Below.refl _ _ | with_reducible assumption | with_reducible refine below_drewN0 ?_ _ | with_reducible refine Below.drew ?_ | with_reducible refine Below.alloc ?_ ?_ _ | with_reducible refine Below.setCell ?_ ?_ _ | go_size))⟩

end Go.Proofs.Ytglhdoibglafbaa
