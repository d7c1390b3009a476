/- Walks of slices.SortFunc at one edge. -/
import Derived.Test.YtglhdoibglafbaaU13
import Derived.Maps.OwnSet
import Derived.DeepKeys4
namespace Go.Proofs.Ytglhdoibglafbaa
open Go Go.RowKit
set_option maxRecDepth 100000
set_option linter.unusedVariables false
set_option linter.unusedSimpArgs false

theorem len64_1 (w : World) : Calls Try.prog 116 #[.int .u64 1] w fun e w' => e = .returned (.int .i64 1) ∧ w = w' := by
  go_enter Try.func116, Try.ntmps116
  go_wp2
  go_ret
  exact ⟨by kernel_rfl, rfl⟩

theorem len_1 (w : World) : Calls Try.prog 95 #[.int .u64 1] w fun e w' => e = .returned (.int .i64 1) ∧ w = w' := by
  go_enter Try.func95, Try.ntmps95
  go_wp2_with (go_at_call 116; refine (len64_1 _).mono ?_; rintro e w1 ⟨rfl, rfl⟩)
  go_ret
  simp

theorem ins_1 (A : Option Addr) (c : Nat) (fv : Value) (w : World) : Calls Try.prog 107 #[.slice A 1 c, .int .i64 0, .int .i64 1, fv] w fun e w' => e = .returned (.tuple #[]) ∧ w = w' := by
  go_enter Try.func107, Try.ntmps107
  go_wp2
  go_rounds 1
  go_end0
  simp

theorem pdq_1 (A : Option Addr) (c : Nat) (fv : Value) (l : Int) (w : World) : Calls Try.prog 94 #[.slice A 1 c, .int .i64 0, .int .i64 1, .int .i64 l, fv] w fun e w' => e = .returned (.tuple #[]) ∧ w = w' := by
  go_enter Try.func94, Try.ntmps94
  go_wp2
  refine wp_loop_rounds 1 ?_
  rw [rounds_succ]
  go_wp2_with (go_at_call 107; refine (ins_1 A c fv _).mono ?_; rintro e w1 ⟨rfl, rfl⟩)
  (try simp only [Exit.inBlock, Exit.then])
  refine bodyPost_ret (results_none rfl _ _ _) rfl ?_
  exact ⟨rfl, rfl⟩

theorem sort_1 (A : Option Addr) (c : Nat) (fv : Value) (w : World) : Calls Try.prog 67 #[.slice A 1 c, fv] w fun e w' => e = .returned (.tuple #[]) ∧ w = w' := by
  go_enter Try.func67, Try.ntmps67
  go_wp2_with (first | (go_at_call 95; refine (len_1 _).mono ?_; rintro e w1 ⟨rfl, rfl⟩) | (go_at_call 94; refine (pdq_1 A c fv _ _).mono ?_; rintro e w1 ⟨rfl, rfl⟩))
  go_end0
  simp

end Go.Proofs.Ytglhdoibglafbaa

/- Walks of graph.Make at one edge. -/
namespace Go.Proofs.Ytglhdoibglafbaa
open Go Go.RowKit
open Go.WideMaps (KeyLaw)
open Go.Maps (Keyed)
set_option maxRecDepth 100000
set_option linter.unusedVariables false
set_option linter.unusedSimpArgs false

theorem laidOutE : laidOutB Try.prog = true := by kernel_rfl
theorem rowE : (28 : TypeId) < Try.prog.types.size := of_decide_eq_true (by kernel_rfl)
theorem cellsE : Try.prog.cellsOf 28 = 2 := by kernel_rfl
theorem cellsI : Try.prog.cellsOf 3 = 1 := by kernel_rfl
theorem wideE : (match Try.prog.underlying 28 with | some (.array _ _) | some (.struct _) => true | _ => false) = true := by rw [Try.underlying28]
theorem lawE : KeyLaw Try.prog 28 := deep_law_laid laidOutE (m := 2) (by omega) rowE (by kernel_rfl) wideE
theorem keyedE : Keyed Try.prog 28 := Keyed.of_law lawE
theorem keyTE : Try.prog.keyType 28 = true := by kernel_rfl

theorem keyE (x y : Int) (wx : (Lit.int .i64 x).wf = true) (wy : (Lit.int .i64 y).wf = true) : keyOf Try.prog 28 (.agg #[.int .i64 x, .int .i64 y]) = some (.string (keyBytes [.int .i64 x, .int .i64 y])) := by
  obtain ⟨m, hm⟩ : ∃ m, Try.prog.types.size = m + 1 := ⟨Try.prog.types.size - 1, by have : 0 < Try.prog.types.size := of_decide_eq_true (by kernel_rfl); omega⟩
  unfold keyOf
  simp only [Try.underlying28]
  rw [if_pos (by simp [keyTE, Value.formed, Try.underlying28, cellsE]), hm]
  unfold Program.keyLits
  simp only [Try.underlying28, Value.cells]
  rw [if_pos (by rw [cellsE]; simp)]
  simp [cellsI, Program.keyLits, Try.underlying3, wx, wy]

theorem wf64 (x : Int) (h1 : -9223372036854775808 ≤ x) (h2 : x ≤ 9223372036854775807) : (Lit.int .i64 x).wf = true := by
  simp [Lit.wf, IntKind.min, IntKind.max, IntKind.signed, IntKind.bits]
  omega

theorem bool_inv {v : Value} {ps : List MemPlace} {x : Bool} (h : plainElem (H := Nat) Try.prog 4 v = some (.lit (.bool x), ps)) : v = .bool x := by
  unfold plainElem at h
  rw [Try.underlying4] at h
  split at h
  · simp at h; rw [h.1]
  · simp_all
  · simp_all
  · cases h

theorem owns_far {w w' : World} {b k : Nat} {D : DataW Nat} (h : w.ownsMap Try.prog 28 (plainElem Try.prog 4) b k D) (hk : w'.heap[b]? = w.heap[b]?) : w'.ownsMap Try.prog 28 (plainElem Try.prog 4) b k D := by
  obtain ⟨es, clock, hb, r⟩ := h
  exact ⟨es, clock, hk.trans hb, r⟩

theorem wpList_look0 (w : World) {ops : Array Oper} {rest : List Oper} {o : Oper} {a : Act} {Q : Exit → Act → World → Prop}
    (hg : o.guard = none) (m x : Operand) (hop : o.op = Op.lookup 95 m x false) (b : Nat)
    (hm : a.eval m = .map (some b)) (hown : w.ownsMap Try.prog 28 (plainElem Try.prog 4) b 0 (.map [] : DataW Nat)) (key : Value) (kl : Lit) (hx : a.eval x = key) (hkey : keyOf Try.prog 28 key = some kl)
    (hK : wpList Try.prog ops Q rest (a.put o.dst (.bool false)) w) :
    wpList Try.prog ops Q (o :: rest) a w := by
  refine wpList_plain hg fun K' hK' => ?_
  obtain ⟨v, ps, hrun, hv⟩ := hown.lookup keyedE Try.underlying95 (z := .bool false) (by kernel_rfl) (zd := .lit (.bool false)) (zp := []) (plainElem_bool Try.underlying4 false) hkey
  obtain rfl := bool_inv (ps := ps) (x := false) hv
  unfold Oper.wp
  simp [execOp, hop, hm, hx, hrun, Result.andThen]
  exact hK' _ _ hK

theorem heap_set1 {w : World} {g : Nat} {a b : Value} {T : TypeId} (h : w.heap[g]? = some (.cells #[a, b] T (0, 0))) (y : Value) :
    (w.setCell ⟨g, 1, none⟩ y).heap[g]? = some (.cells #[a, y] T (0, 0)) := by
  simp [World.setCell, Array.getElem?_modify, h]

set_option maxHeartbeats 4000000 in
theorem make_1 (n a b : Int) (A : Option Addr) (c : Nat) (w : World) (hr : Reads w A (pcells [(a, b)])) (hc : 1 ≤ c) (hn0 : 0 ≤ n) (hn1 : n ≤ 4096) (x y : Int) (hx : min a b = x) (hy : max a b = y) (h0 : 0 ≤ x) (h1 : x < y) (h2 : y < n) :
    Calls Try.prog 27 #[.int .i64 n, .slice A 1 c] w fun e w' => ∃ v, e = .returned (.tuple #[.agg #[.int .i64 n, v], .int .i64 0]) ∧ w'.ownsRow w.heap.size 28 2 v 1 (pcells [(x, y)]) ∧ Below w.heap.size w w' := by
  have HE := fun W => edge_any a b W
  rw [hx, hy] at HE
  have HT := fun W => there_any n x y W
  have HT1 : (decide (0 ≤ min x y) && decide (max x y < n)) = true := by simp; omega
  rw [HT1] at HT
  have hk := keyE x y (wf64 x (by omega) (by omega)) (wf64 y (by omega) (by omega))
  have hmm := @run_makeMap Try.prog
  clear hx hy HT1
  obtain ⟨b0, o0, rfl, hbl, e1, e2⟩ := hr.pair' 0 (a, b) rfl
  simp only [Nat.zero_mul, Nat.add_zero] at e1 e2
  go_enter Try.func27, Try.ntmps27
  go_wp2_with fail
  generalize hW : ((w.alloc (Obj.cells #[Value.int IntKind.i64 0, Value.slice none 0 0] 25)).alloc (Obj.map #[] 0)).alloc (Obj.cells #[Value.int IntKind.i64 n, Value.slice none 0 0] 25) = W
  have hbW : Below w.heap.size w W := by rw [← hW]; go_grown
  have hG : Hid (W.heap[w.heap.size]? = some (.cells #[Value.int IntKind.i64 0, Value.slice none 0 0] 25 (0, 0))) := by rw [← hW]; exact Lib.hid (heap_old (heap_old (heap_alloc_new _ _)))
  have hB : Hid (W.heap[w.heap.size + 1 + 1]? = some (.cells #[Value.int IntKind.i64 n, Value.slice none 0 0] 25 (0, 0))) := by rw [← hW]; exact Lib.hid (by have h := heap_alloc_new ((w.alloc (Obj.cells #[Value.int IntKind.i64 0, Value.slice none 0 0] 25)).alloc (Obj.map #[] 0)) (Obj.cells #[Value.int IntKind.i64 n, Value.slice none 0 0] 25); rw [World.size_alloc, World.size_alloc] at h; exact h)
  have hM : W.ownsMap Try.prog 28 (plainElem Try.prog 4) (w.heap.size + 1) 0 (.map [] : DataW Nat) := by
    rw [← hW]
    have h := World.ownsMap_made (H := Nat) (w.alloc (Obj.cells #[Value.int IntKind.i64 0, Value.slice none 0 0] 25)) Try.prog 28 (plainElem Try.prog 4)
    rw [World.size_alloc] at h
    exact h.alloc _
  have hsz : W.heap.size = w.heap.size + 3 := by rw [← hW]; simp
  have e1' := (hbW.cell (p := ⟨b0, o0, none⟩) hbl).trans e1
  have e2' := (hbW.cell (p := ⟨b0, o0 + 1, none⟩) hbl).trans e2
  clear hW e1 e2 hr
  obtain ⟨p0, p1, p2, p3, p4⟩ := blk2 hB.out
  obtain ⟨q0, q1, q2, q3, q4⟩ := blk2 hG.out
  refine wp_loop_rounds 2 ?_
  rw [rounds_succ]
  go_wp2_with (first
    | (go_at_call 65; refine (HE _).mono ?_; rintro e w1 ⟨rfl, hb1⟩
       have hb1' : Below W.heap.size W w1 := Below.trans (by (repeat (first | with_reducible exact Below.refl _ _ | with_reducible assumption | with_reducible refine below_drewN0 ?_ _ | with_reducible refine Below.drew ?_ | with_reducible refine Below.alloc ?_ ?_ _ | with_reducible refine Below.setCell ?_ ?_ _ | go_size | exact Below.size (by assumption)))) (hb1.mono (by simp))
       have hs1 := hb1'.size
       have hG1 := Lib.hid ((hb1'.block w.heap.size (by omega)).trans hG.out)
       have hB1 := Lib.hid ((hb1'.block (w.heap.size + 1 + 1) (by omega)).trans hB.out)
       have hM1 := (owns_far hM (hb1'.block (w.heap.size + 1) (by omega))).alloc (Obj.cells #[Value.int IntKind.i64 x, Value.int IntKind.i64 y] 28)
       obtain ⟨r0, r1, r2, r3, r4⟩ := blk2 hB1.out
       clear hb1)
    | (go_at_call 66; refine (HT _).mono ?_; rintro e w2 ⟨rfl, rfl⟩)
    | (at_lookup; refine wpList_look0 _ rfl _ _ rfl (w.heap.size + 1) rfl hM1 _ _ rfl hk ?_)
    | (at_mapUpdate; refine wpList_mapUpdate_own _ rfl _ _ _ 95 rfl 28 4 keyedE Try.underlying95 (plainElem Try.prog 4) (w.heap.size + 1) 0 (.map []) rfl hM1 (by decide) _ _ _ rfl rfl hk (.lit (.bool true)) [] (plainElem_bool Try.underlying4 true) ?_
       intro w3 hM3 hg3
       have hs3 : w1.heap.size + 1 ≤ w3.heap.size := by have := hg3.size; rw [World.size_alloc] at this; omega
       have hG3 := Lib.hid ((hg3.block w.heap.size (by simp; omega) (by simp)).trans (heap_old hG1.out))
       have hB3 := Lib.hid ((hg3.block (w.heap.size + 1 + 1) (by simp; omega) (by simp)).trans (heap_old hB1.out))
       obtain ⟨s0, s1, s2, s3, s4⟩ := blk2 ((hg3.block w1.heap.size (by simp) (by simp; omega)).trans (heap_alloc_new _ _))
       obtain ⟨t0, t1, t2, t3, t4⟩ := blk2 hB3.out
       have hb3 : Below w.heap.size w w3 := (Below.trans hbW ((hb1'.alloc (by omega) _).mono (by omega))).grown hg3 (by simp; omega) (by simp))
    | (at_builtin; refine wpList_app EI_edge rfl (.tmp 62) (.tmp 64) rfl (w.heap.size + 3) (.slice none 0 0) 0 [] rfl (own_nil0 _ _ _ _) (some ⟨_, 0, none⟩) 1 1 [.int .i64 x, .int .i64 y] rfl ?_ rfl ?_ ?_ ?_ ?_
       · exact reads_new w3 [_, _] _
       · simp [Value.oneCell']
       · omega
       · simp; omega
       intro v4 w4 hown4 hg4 hat4
       have hG4 := Lib.hid ((hg4.block w.heap.size (by simp; omega) (by simp [Value.ownBlock])).trans (heap_old hG3.out))
       have hB4 := Lib.hid ((hg4.block (w.heap.size + 1 + 1) (by simp; omega) (by simp [Value.ownBlock])).trans (heap_old hB3.out))
       obtain ⟨u0, u1, u2, u3, u4⟩ := blk2 hB4.out
       obtain ⟨x0, x1, x2, x3, x4⟩ := blk2 hG4.out
       have hb4 : Below w.heap.size w w4 := below_app (by (repeat (first | with_reducible exact Below.refl _ _ | with_reducible assumption | with_reducible refine below_drewN0 ?_ _ | with_reducible refine Below.drew ?_ | with_reducible refine Below.alloc ?_ ?_ _ | with_reducible refine Below.setCell ?_ ?_ _ | go_size | exact Below.size (by assumption)))) hg4 (by simp; omega) (by simp [Value.ownBlock])
       obtain ⟨A4, c4, rfl, hl4, hrd4⟩ := own_reads0 hown4))
  have hB5 := Lib.hid (heap_set1 hB4.out (.slice A4 1 c4))
  generalize hW5 : w4.setCell ⟨w.heap.size + 1 + 1, 1, none⟩ (.slice A4 1 c4) = W5 at *
  have hG5 : Hid (W5.heap[w.heap.size]? = some (.cells #[Value.int IntKind.i64 0, Value.slice none 0 0] 25 (0, 0))) := by rw [← hW5]; exact Lib.hid (heap_far hG4.out (by simp; omega) _)
  have hown5 : W5.ownsRow (w.heap.size + 3) 28 2 (.slice A4 (0 + 1) c4) (0 + 1) ([] ++ [.int .i64 x, .int .i64 y]) := by rw [← hW5]; exact own_set hown4 (by simp) _
  have hb5 : Below w.heap.size w W5 := by rw [← hW5]; exact hb4.setCell (by simp; omega) _
  obtain ⟨y0, y1, y2, y3, y4⟩ := blk2 hB5.out
  obtain ⟨z0, z1, z2, z3, z4⟩ := blk2 hG5.out
  clear u0 u1 u2 u3 u4 x0 x1 x2 x3 x4 hB4 hG4 hown4 hrd4 hat4 hg4 hb4 hW5 s0 s1 s2 s3 s4 t0 t1 t2 t3 t4 r0 r1 r2 r3 r4 p0 p1 p2 p3 p4 q0 q1 q2 q3 q4 hB3 hG3 hg3 hM3 hB1 hG1 hM1 hM hB hG
  have HS := fun W => sort_1 A4 c4 (.func (.func 68) #[.agg #[]] #[]) W
  rw [rounds_succ]
  go_wp2_with (go_at_call 67; refine (HS _).mono ?_; rintro e w6 ⟨rfl, rfl⟩)
  refine bodyPost_ret (v := .tuple #[.agg #[.int .i64 n, .slice A4 1 c4], .int .i64 0]) (by simp [results, Try.results27, go_sem, z0, z1]) rfl ?_
  exact ⟨_, rfl, own_cast (own_set (own_set hown5 (a := ⟨w.heap.size, 0, none⟩) (by simp) _) (a := ⟨w.heap.size, 1, none⟩) (by simp) _) (by omega) rfl rfl, by (repeat (first | with_reducible exact Below.refl _ _ | with_reducible assumption | with_reducible refine below_drewN0 ?_ _ | with_reducible refine Below.drew ?_ | with_reducible refine Below.alloc ?_ ?_ _ | with_reducible refine Below.setCell ?_ ?_ _ | go_size | exact Below.size (by assumption)))⟩

end Go.Proofs.Ytglhdoibglafbaa

/- Walks of the waking call of the graph laws. -/
namespace Go.Proofs.Ytglhdoibglafbaa
open Go Go.RowKit
set_option maxRecDepth 100000
set_option linter.unusedVariables false
set_option linter.unusedSimpArgs false

theorem below_sub {B : Nat} {a b : World} (h : Below b.heap.size b a) (hB : B ≤ b.heap.size) : Below B b a := h.mono hB

set_option maxHeartbeats 2000000 in
theorem awake02 (w : World) : Calls Try.prog 25 #[] w fun e w' => e = .returned (.bool true) ∧ Below w.heap.size w w' := by
  have HM := fun c W hR => make_1 3 2 0 (some ⟨w.heap.size, 0, none⟩) c W hR
  have HH := fun es A c W hR hc hm => has_any 3 0 2 es A c W hR hc hm
  have HB : hasB 3 [(0, 2)] 0 2 = true := by decide
  go_enter Try.func25, Try.ntmps25
  go_wp2_with (first
    | (go_at_call 27; refine (HM 1 _ ?_ (by omega) (by omega) (by omega) 0 2 rfl rfl (by omega) (by omega) (by omega)).mono ?_
       · exact reads_new w [_, _] _
       rintro e w1 ⟨v, rfl, ho, hb⟩
       obtain ⟨A, c, rfl, hl, hrd⟩ := own_reads0 ho
       obtain ⟨b0, o0, rfl, hbl, e1, e2⟩ := Reads.pair' (l := [(0, 2)]) hrd 0 (0, 2) rfl
       simp only [Nat.zero_mul, Nat.add_zero] at e1 e2
       have hbw : Below w.heap.size w w1 := Below.trans (by (repeat (first | with_reducible exact Below.refl _ _ | with_reducible assumption | with_reducible refine below_drewN0 ?_ _ | with_reducible refine Below.drew ?_ | with_reducible refine Below.alloc ?_ ?_ _ | with_reducible refine Below.setCell ?_ ?_ _ | go_size | exact Below.size (by assumption)))) (hb.mono (by simp)))
    | (go_at_call 33; refine (HH [(0, 2)] _ _ _ (hrd.below ?_) hl (by decide)).mono ?_
       · (repeat (first | with_reducible exact Below.refl _ _ | with_reducible assumption | with_reducible refine below_drewN0 ?_ _ | with_reducible refine Below.drew ?_ | with_reducible refine Below.alloc ?_ ?_ _ | with_reducible refine Below.setCell ?_ ?_ _ | go_size | exact Below.size (by assumption)))
       rw [HB]
       rintro e w2 ⟨rfl, hb2⟩))
  go_ret
  exact ⟨rfl, Below.trans (hbw.alloc hbw.size _) (hb2.mono (by have := hbw.size; simp; omega))⟩

theorem make_limit (n : Int) (A : Option Addr) (l c : Nat) (w : World) (hn : 4096 < n) :
    Calls Try.prog 27 #[.int .i64 n, .slice A l c] w fun e w' => e = .returned (.tuple #[.agg #[.int .i64 0, .slice none 0 0], .int .i64 8]) ∧ Below w.heap.size w w' := by
  go_enter Try.func27, Try.ntmps27
  go_wp2_with fail
  refine bodyPost_ret (v := .tuple #[.agg #[.int .i64 0, .slice none 0 0], .int .i64 8]) (by simp [results, Try.results27, go_sem]) rfl ?_
  exact ⟨rfl, by go_grown⟩

theorem add_vertex (n a b : Int) (es : List (Int × Int)) (A : Option Addr) (c : Nat) (w : World) (hr : Reads w A (pcells es)) (hc : es.length ≤ c) (hm : es.length ≤ 4611686018427387903) (hR : rightB n es = true) (hT : (decide (0 ≤ min a b) && decide (max a b < n)) = false) :
    Calls Try.prog 57 #[.agg #[.int .i64 n, .slice A es.length c], .int .i64 a, .int .i64 b] w fun e w' => e = .returned (.tuple #[.agg #[.int .i64 0, .slice none 0 0], .int .i64 4]) ∧ Below w.heap.size w w' := by
  have HRt := fun W hr => right_any n es A c W hr hc hm
  rw [hR] at HRt
  have HT := fun W => there_any n a b W
  rw [hT] at HT
  clear hT hR
  go_enter Try.func57, Try.ntmps57
  go_wp2_with (first
    | (go_at_call 31; refine (HRt _ (hr.below ?_)).mono ?_
       · (repeat (first | with_reducible exact Below.refl _ _ | with_reducible assumption | with_reducible refine below_drewN0 ?_ _ | with_reducible refine Below.drew ?_ | with_reducible refine Below.alloc ?_ ?_ _ | with_reducible refine Below.setCell ?_ ?_ _ | go_size | exact Below.size (by assumption)))
       rintro e w1 ⟨rfl, hb1⟩
       have hbw : Below w.heap.size w w1 := Below.trans (by (repeat (first | with_reducible exact Below.refl _ _ | with_reducible assumption | with_reducible refine below_drewN0 ?_ _ | with_reducible refine Below.drew ?_ | with_reducible refine Below.alloc ?_ ?_ _ | with_reducible refine Below.setCell ?_ ?_ _ | go_size | exact Below.size (by assumption)))) (hb1.mono (by simp; omega))
       obtain ⟨a0, a1, a2, a3, a4⟩ := blk2 ((hb1.block w.heap.size (by simp; omega)).trans (heap_old (heap_alloc_new _ _)))
       obtain ⟨b0, b1, b2, b3, b4⟩ := blk2 ((hb1.block (w.heap.size + 1) (by simp)).trans (by have h := heap_alloc_new (w.alloc (Obj.cells #[Value.int IntKind.i64 n, Value.slice A es.length c] 25)) (Obj.cells #[Value.int IntKind.i64 0, Value.slice none 0 0] 25); rw [World.size_alloc] at h; exact h)))
    | (go_at_call 66; refine (HT _).mono ?_; rintro e w2 ⟨rfl, rfl⟩))
  refine bodyPost_ret (v := .tuple #[.agg #[.int .i64 0, .slice none 0 0], .int .i64 4]) (by simp [results, Try.results57, go_sem, b0, b1]) rfl ?_
  exact ⟨rfl, by (repeat (first | with_reducible exact Below.refl _ _ | with_reducible assumption | with_reducible refine below_drewN0 ?_ _ | with_reducible refine Below.drew ?_ | with_reducible refine Below.alloc ?_ ?_ _ | with_reducible refine Below.setCell ?_ ?_ _ | go_size | exact Below.size (by assumption)))⟩

theorem eqf_nil (fv : Value) (w : World) : Calls Try.prog 79 #[.slice none 0 0, .slice none 0 0, fv] w fun e w' => e = .returned (.bool true) ∧ w = w' := by
  go_enter Try.func79, Try.ntmps79
  go_wp2_with fail
  go_rounds 1
  go_ret
  simp

theorem edges_nil (w : World) : Calls Try.prog 51 #[.slice none 0 0, .slice none 0 0] w fun e w' => e = .returned (.bool true) ∧ w = w' := by
  go_enter Try.func51, Try.ntmps51
  go_wp2_with (go_at_call 79; refine (eqf_nil _ _).mono ?_; rintro e w1 ⟨rfl, rfl⟩)
  go_ret
  simp

theorem graph_nil (w : World) : Calls Try.prog 29 #[.agg #[.int .i64 0, .slice none 0 0], .agg #[.int .i64 0, .slice none 0 0]] w fun e w' => e = .returned (.bool true) ∧ Below w.heap.size w w' := by
  go_enter Try.func29, Try.ntmps29
  go_wp2_with (go_at_call 51; refine (edges_nil _).mono ?_; rintro e w1 ⟨rfl, rfl⟩)
  go_ret
  exact ⟨rfl, by (repeat (first | with_reducible exact Below.refl _ _ | with_reducible assumption | with_reducible refine below_drewN0 ?_ _ | with_reducible refine Below.drew ?_ | with_reducible refine Below.alloc ?_ ?_ _ | with_reducible refine Below.setCell ?_ ?_ _ | go_size | exact Below.size (by assumption)))⟩

end Go.Proofs.Ytglhdoibglafbaa

/- The walk of the law GraphLimits. -/
namespace Go.Proofs.Ytglhdoibglafbaa
open Go Go.RowKit
set_option maxRecDepth 100000
set_option linter.unusedVariables false
set_option linter.unusedSimpArgs false

set_option maxHeartbeats 2000000 in
theorem limits_any (m : Bool) (w : World) : Calls Try.prog 11 #[.bool m] w fun e w' => e = .returned (.bool true) ∧ Below w.heap.size w w' := by
  cases m with
  | true =>
    have HM := fun A l c W => make_limit 4097 A l c W (by omega)
    have HA := fun W => awake02 W
    have HG := fun W => graph_nil W
    have HR := fun W => right_any 4097 [] none 0 W (.inl rfl) (by decide) (by decide)
    rw [show rightB 4097 [] = false from by decide] at HR
    go_enter Try.func11, Try.ntmps11
    go_wp2_with (first
      | (go_at_call 27; refine (HM _ _ _ _).mono ?_; rintro e w1 ⟨rfl, hb1⟩
         have hbw : Below w.heap.size w w1 := Below.trans (by (repeat (first | with_reducible exact Below.refl _ _ | with_reducible assumption | with_reducible refine below_drewN0 ?_ _ | with_reducible refine Below.drew ?_ | with_reducible refine Below.alloc ?_ ?_ _ | with_reducible refine Below.setCell ?_ ?_ _ | go_size | exact Below.size (by assumption)))) (hb1.mono (by simp)))
      | (go_at_call 25; refine (HA _).mono ?_; rintro e w2 ⟨rfl, hb2⟩
         obtain ⟨a0, a1, a2, a3, a4⟩ := blk2 ((hb2.block w1.heap.size (by simp)).trans (heap_alloc_new _ _)))
      | (go_at_call 29; refine (HG _).mono ?_; rintro e w3 ⟨rfl, hb3⟩)
      | (go_at_call 31; refine (HR _).mono ?_; rintro e w4 ⟨rfl, hb4⟩))
    go_ret
    have s1 := hbw.size
    have s2 := hb2.size
    have s3 := hb3.size
    rw [World.size_alloc] at s2
    exact ⟨rfl, (hbw.alloc s1 _).trans ((hb2.mono (by simp; omega)).trans ((hb3.mono (by omega)).trans (hb4.mono (by omega))))⟩
  | false =>
    have HM := fun A c W hR => make_1 4096 4095 0 A c W hR
    have HA := fun W => awake02 W
    have HH := fun A c W hR hc => has_any 4096 0 4095 [(0, 4095)] A c W hR hc (by decide)
    rw [show hasB 4096 [(0, 4095)] 0 4095 = true from by decide] at HH
    have HV := fun A c W hR hc => add_vertex 4096 0 4096 [(0, 4095)] A c W hR hc (by decide) (by decide) (by decide)
    go_enter Try.func11, Try.ntmps11
    go_wp2_with (first
      | (go_at_call 27; refine (HM _ 1 _ ?_ (by omega) (by omega) (by omega) 0 4095 rfl rfl (by omega) (by omega) (by omega)).mono ?_
         · exact reads_new w [_, _] _
         rintro e w1 ⟨v, rfl, ho, hb⟩
         obtain ⟨A, c, rfl, hl, hrd⟩ := own_reads0 ho
         have hbw : Below w.heap.size w w1 := Below.trans (by (repeat (first | with_reducible exact Below.refl _ _ | with_reducible assumption | with_reducible refine below_drewN0 ?_ _ | with_reducible refine Below.drew ?_ | with_reducible refine Below.alloc ?_ ?_ _ | with_reducible refine Below.setCell ?_ ?_ _ | go_size | exact Below.size (by assumption)))) (hb.mono (by simp)))
      | (go_at_call 57; refine (HV _ _ _ (hrd.below ?_) hl).mono ?_
         · (repeat (first | with_reducible exact Below.refl _ _ | with_reducible assumption | with_reducible refine below_drewN0 ?_ _ | with_reducible refine Below.drew ?_ | with_reducible refine Below.alloc ?_ ?_ _ | with_reducible refine Below.setCell ?_ ?_ _ | go_size | exact Below.size (by assumption)))
         rintro e w2 ⟨rfl, hb2⟩
         have hA2 := Lib.hid ((hb2.block w1.heap.size (by simp)).trans (heap_alloc_new _ _))
         obtain ⟨a0, a1, a2, a3, a4⟩ := blk2 hA2.out
         have hbx : Below w1.heap.size w1 w2 := Below.trans (by (repeat (first | with_reducible exact Below.refl _ _ | with_reducible assumption | with_reducible refine below_drewN0 ?_ _ | with_reducible refine Below.drew ?_ | with_reducible refine Below.alloc ?_ ?_ _ | with_reducible refine Below.setCell ?_ ?_ _ | go_size | exact Below.size (by assumption)))) (hb2.mono (by simp)))
      | (go_at_call 25; refine (HA _).mono ?_; rintro e w3 ⟨rfl, hb3⟩
         have hby : Below w1.heap.size w1 w3 := hbx.trans (Below.trans (by (repeat (first | with_reducible exact Below.refl _ _ | with_reducible assumption | with_reducible refine below_drewN0 ?_ _ | with_reducible refine Below.drew ?_ | with_reducible refine Below.alloc ?_ ?_ _ | with_reducible refine Below.setCell ?_ ?_ _ | go_size | exact Below.size (by assumption)))) (hb3.mono (by have := hbx.size; simp; omega)))
         obtain ⟨c0, c1, c2, c3, c4⟩ := blk2 ((hb3.block w1.heap.size (by simp; omega)).trans (heap_old hA2.out)))
      | (go_at_call 33; refine (HH _ _ _ (hrd.below ?_) hl).mono ?_
         · (repeat (first | with_reducible exact Below.refl _ _ | with_reducible assumption | with_reducible refine below_drewN0 ?_ _ | with_reducible refine Below.drew ?_ | with_reducible refine Below.alloc ?_ ?_ _ | with_reducible refine Below.setCell ?_ ?_ _ | go_size | exact Below.size (by assumption)))
         rintro e w4 ⟨rfl, hb4⟩))
    go_ret
    have s1 := hbw.size
    have s2 := hby.size
    exact ⟨rfl, hbw.trans ((hby.mono (by omega)).trans (hb4.mono (by omega)))⟩

end Go.Proofs.Ytglhdoibglafbaa
