/- Walk of single.Largest. -/
import Derived.Test.YtgddfmfiiodgbaaU26
import Derived.Test.YtgddfmfiiodgbaaU17
import Derived.Test.YtgddfmfiiodgbaaU09
import Derived.Test.YtgddfmfiiodgbaaU25
namespace Go.Proofs.Ytgddfmfiiodgbaa
open Go Go.RowKit
set_option maxRecDepth 100000
set_option linter.unusedVariables false
set_option linter.unusedSimpArgs false

/-- What Largest leaves of a graph that is right. -/
def LargestPost (n : Nat) (es : List (Int × Int)) (w : World) (e : Ending) (w' : World) : Prop :=
  ∃ M mA g r k, e = .returned (.tuple #[.slice mA n n, .agg #[.int .i64 ((r : Nat) : Int), .int .i64 ((k : Nat) : Int)], .int .i64 0]) ∧ IsMat n (adjE es) M ∧ (∀ p, ¬ AugW (adjE es) M p) ∧ RowO w' mA g (mateL n M) ∧ w.heap.size ≤ g ∧ g < w'.heap.size ∧ r ≤ n + 1 ∧ k ≤ 2 * es.length ∧ Below w.heap.size w w'

set_option maxHeartbeats 1000000 in
theorem largest_no (n : Int) (es : List (Int × Int)) (A : Option Addr) (c : Nat) (w : World) (hr : Reads w A (pcells es)) (hc : es.length ≤ c) (hm : es.length ≤ 4611686018427387903) (hR : rightB n es = false) :
    Calls Try.prog 32 #[.agg #[.int .i64 n, .slice A es.length c]] w fun e w' => e = .returned (.tuple #[.slice none 0 0, .agg #[.int .i64 0, .int .i64 0], .int .i64 3]) ∧ Below w.heap.size w w' := by
  have HRI := fun (W : World) (h : Reads W A (pcells es)) => right_any n es A c W h hc hm
  rw [hR] at HRI
  have HR := Lib.hid hr
  clear hr hR
  go_enter Try.func32, Try.ntmps32
  go_upto_region 1 with fail
  obtain ⟨w1, hw1⟩ : ∃ w1, w1 = (w.alloc (Obj.cells #[Value.int IntKind.i64 n, Value.slice A es.length c] 25)).alloc (Obj.cells #[Value.int IntKind.i64 0, Value.int IntKind.i64 0] 28) := ⟨_, rfl⟩
  rw [← hw1]
  have hs1 : w1.heap.size = w.heap.size + 2 := by rw [hw1]; simp
  have hb1 : Below w.heap.size w w1 := by rw [hw1]; exact ((Below.refl _ _).alloc (Nat.le_refl _) _).alloc (by simp) _
  have h0 : w1.heap[w.heap.size]? = some (.cells #[Value.int IntKind.i64 n, Value.slice A es.length c] 25 (0, 0)) := by rw [hw1]; exact heap_old (heap_alloc_new _ _)
  have h1 : w1.heap[w.heap.size + 1]? = some (.cells #[Value.int IntKind.i64 0, Value.int IntKind.i64 0] 28 (0, 0)) := by
    rw [hw1]
    have := heap_alloc_new (w.alloc (Obj.cells #[Value.int IntKind.i64 n, Value.slice A es.length c] 25)) (Obj.cells #[Value.int IntKind.i64 0, Value.int IntKind.i64 0] 28)
    rw [World.size_alloc] at this
    exact this
  have c0 := blkc0 h0 0 _ rfl
  have c1 := blkc0 h0 1 _ rfl
  have HB1 := Lib.hid hb1
  have HS1 := Lib.hid hs1
  have H0 := Lib.hid h0
  have H1 := Lib.hid h1
  clear hw1 hb1 hs1 h0 h1
  go_upto_region 2 with (go_at_call 91; (refine (HRI w1 (HR.out.below HB1.out)).mono ?_; rintro e w2 ⟨rfl, hb2⟩))
  have hs2 := hb2.size
  have hs1 := HS1.out
  have e1 := (hb2.block (w.heap.size + 1) (by omega)).trans H1.out
  have p0 := blkc0 e1 0 _ rfl
  have p1 := blkc0 e1 1 _ rfl
  have y0 := blkf0 e1 0
  have y1 := blkf0 e1 1
  have E1 := Lib.hid e1
  have HB2 := Lib.hid (show Below w.heap.size w w2 from HB1.out.trans (hb2.mono (by omega)))
  clear e1 hb2 hs2 hs1 c0 c1
  go_wp2_with fail
  obtain ⟨wf, hwf⟩ : ∃ wf, wf = ((w2.setCell { block := w.heap.size + 1, off := 0 } (Value.int IntKind.i64 0)).setCell { block := w.heap.size + 1, off := 1 } (Value.int IntKind.i64 0)) := ⟨_, rfl⟩
  rw [← hwf]
  have hfb : wf.heap[w.heap.size + 1]? = some (.cells #[.int .i64 0, .int .i64 0] 28 (0, 0)) := by rw [hwf]; exact heap_set2 E1.out _ _
  have k0 := blkc0 hfb 0 _ rfl
  have k1 := blkc0 hfb 1 _ rfl
  refine bodyPost_ret (v := .tuple #[.slice none 0 0, .agg #[.int .i64 0, .int .i64 0], .int .i64 3]) (by simp [results, Try.results32, go_sem, k0, k1]) rfl ?_
  exact ⟨rfl, by rw [hwf]; exact (HB2.out.setCell (p := ⟨_, 0, none⟩) (Nat.le_succ _) _).setCell (p := ⟨_, 1, none⟩) (Nat.le_succ _) _⟩

set_option maxHeartbeats 2000000 in
theorem largest_yes (n : Nat) (es : List (Int × Int)) (A : Option Addr) (c : Nat) (w : World) (hr : Reads w A (pcells es)) (hc : es.length ≤ c) (hR : rightB n es = true) :
    Calls Try.prog 32 #[.agg #[.int .i64 (n : Int), .slice A es.length c]] w (LargestPost n es w) := by
  have hP := (right_iff n es).1 hR
  have hn : n ≤ 4096 := by have := hP.n1; omega
  have hm : es.length ≤ 2000000 := by have := hP.len; omega
  have HRI := fun (W : World) (h : Reads W A (pcells es)) => right_any (n : Int) es A c W h hc (by omega)
  have HLI := fun (W : World) (h : Reads W A (pcells es)) => lists_any n es A c W h hc hm (by omega) (fun e he => by have := hP.ok e he; omega)
  have HFI := fun (W : World) (h : Reads W A (pcells es)) => gfirst_any n es A c W h hc hR
  have HEN := fun (W : World) (M : Nat → Option Nat) (mA : Option Addr) (g B : Nat) (h1 : IsMat n (adjE es) M) (h2 : NearG W (some ⟨B, 0, none⟩) n (nrN es) g) (h3 : RowO W mA g (mateL n M)) (h4 : g < W.heap.size) =>
    enlarge_any (nc := n) (mc := n) (right_gr hP) h1 (fun v u _ => mem_nrN hP v u) (by omega) (by rw [sumD_all hP]; have := hP.len; omega) h2 h3 h4 (Nat.le_refl _)
  rw [hR] at HRI
  have HP := Lib.hid hP
  have HR := Lib.hid hr
  clear hr hR hP
  go_enter Try.func32, Try.ntmps32
  go_upto_region 1 with fail
  obtain ⟨w1, hw1⟩ : ∃ w1, w1 = (w.alloc (Obj.cells #[Value.int IntKind.i64 (n : Int), Value.slice A es.length c] 25)).alloc (Obj.cells #[Value.int IntKind.i64 0, Value.int IntKind.i64 0] 28) := ⟨_, rfl⟩
  rw [← hw1]
  have hs1 : w1.heap.size = w.heap.size + 2 := by rw [hw1]; simp
  have hb1 : Below w.heap.size w w1 := by rw [hw1]; exact ((Below.refl _ _).alloc (Nat.le_refl _) _).alloc (by simp) _
  have h0 : w1.heap[w.heap.size]? = some (.cells #[Value.int IntKind.i64 (n : Int), Value.slice A es.length c] 25 (0, 0)) := by rw [hw1]; exact heap_old (heap_alloc_new _ _)
  have h1 : w1.heap[w.heap.size + 1]? = some (.cells #[Value.int IntKind.i64 0, Value.int IntKind.i64 0] 28 (0, 0)) := by
    rw [hw1]
    have := heap_alloc_new (w.alloc (Obj.cells #[Value.int IntKind.i64 (n : Int), Value.slice A es.length c] 25)) (Obj.cells #[Value.int IntKind.i64 0, Value.int IntKind.i64 0] 28)
    rw [World.size_alloc] at this
    exact this
  have c0 := blkc0 h0 0 _ rfl
  have c1 := blkc0 h0 1 _ rfl
  have HB1 := Lib.hid hb1
  have HS1 := Lib.hid hs1
  have H0 := Lib.hid h0
  have H1 := Lib.hid h1
  clear hw1 hb1 hs1 h0 h1
  go_upto_region 3 with (go_at_call 91; (refine (HRI w1 (HR.out.below HB1.out)).mono ?_; rintro e w2 ⟨rfl, hb2⟩))
  have hs2 := hb2.size
  have hs1 := HS1.out
  have e0 := (hb2.block w.heap.size (by omega)).trans H0.out
  have e1 := (hb2.block (w.heap.size + 1) (by omega)).trans H1.out
  have c0 := blkc0 e0 0 _ rfl
  have c1 := blkc0 e0 1 _ rfl
  have HB2 := Lib.hid (show Below w.heap.size w w2 from HB1.out.trans (hb2.mono (by omega)))
  have E0 := Lib.hid e0
  have E1 := Lib.hid e1
  have HS2 := Lib.hid (show w.heap.size + 2 ≤ w2.heap.size by omega)
  clear e0 e1 hb2 hs2 hs1 H0 H1 HS1 HB1
  go_upto_region 4 with (go_at_call 92; (refine (HFI w2 (HR.out.below HB2.out)).mono ?_; rintro e w3 ⟨M, mA, g, rfl, hM, hRO, hg1, hg2, hb3⟩))
  have hs2 := HS2.out
  have e0 := (hb3.block w.heap.size (by omega)).trans E0.out
  have e1 := (hb3.block (w.heap.size + 1) (by omega)).trans E1.out
  have c0 := blkc0 e0 0 _ rfl
  have c1 := blkc0 e0 1 _ rfl
  have HB3 := Lib.hid (show Below w.heap.size w w3 from HB2.out.trans (hb3.mono (by omega)))
  have F1 := Lib.hid e1
  have HS3 := Lib.hid (show w.heap.size + 2 ≤ g by omega)
  clear e0 e1 hb3 hs2 E0 E1 HB2 hg1
  go_upto_region 5 with (first
    | (go_at_call 94; (refine (HLI w3 (HR.out.below HB3.out)).mono ?_; rintro e w4 ⟨B, vs, rfl, hB, hRS, hb4⟩))
    | (go_at_call 93; (refine (HEN w4 M mA g B hM (near_of_rows HP.out hRS (by omega) (by omega)) (hRO.keep (hb4.block g hg2)) (Nat.lt_of_lt_of_le hg2 hb4.size)).mono ?_; rintro e w5 ⟨M', BL, S, D, r, k, rfl, hr, hk, hM', hRO', hinv, hcl, hRB, hBL, hb5⟩)))
  have hs3 := HS3.out
  have hs4 := hb4.size
  have hs5 := hb5.size
  have e1 := (hb5.block (w.heap.size + 1) (by omega) (by omega)).trans ((hb4.block _ (by omega)).trans F1.out)
  have HE1 := Lib.hid e1
  have HB5 := Lib.hid (show Below w.heap.size w w5 from HB3.out.trans ((hb4.mono HB3.out.size).trans (hb5.below (by omega) (by omega))))
  have hd := (heap_alloc_new w5 (Obj.cells #[Value.int IntKind.i64 (r : Int), Value.int IntKind.i64 (k : Int)] 28))
  have d0 := blkc0 hd 0 _ rfl
  have d1 := blkc0 hd 1 _ rfl
  have q1 := heap_old (o' := Obj.cells #[Value.int IntKind.i64 (r : Int), Value.int IntKind.i64 (k : Int)] 28) e1
  have q2 := blkc0 q1 0 _ rfl
  have q3 := blkc0 q1 1 _ rfl
  have y2 := blkf0 q1 0
  have y3 := blkf0 q1 1
  have ne5 : w5.heap.size ≠ w.heap.size + 1 := by omega
  have HNE := Lib.hid ne5
  have HRO5 := Lib.hid hRO'
  have HG5 := Lib.hid (show g < w5.heap.size by omega)
  have HQ1 := Lib.hid q1
  clear hs3 hs4 hs5 hd e1 q1 hb4 hb5 hRS hRO hRO' hRB hBL hB hg2
  go_upto_region 5 with fail
  (refine wp_region_rws [0, 0, 1, 2, 2] (by kernel_rfl) (by kernel_rfl) (by kernel_rfl) (fun _ _ d _ _ h => by cases d <;> exact h) ?_
   simp only [pickL, reduceIte, Nat.reduceEqDiff]
   repeat (go_big_quiet_step (fail))
   refine wpQuiet_nil ?_
   repeat (refine wpW_step ?_ ?_ ?_; rotate_left; focus (intro w1; go_simp; first | done | with_reducible rfl))
   refine wpW_nil ?_
   intro _ hw'
   obtain ⟨nq, hw''⟩ := hw'
   subst hw'')
  go_wp2_with fail
  obtain ⟨wf, hwf⟩ : ∃ wf, wf = ((((w5.alloc (Obj.cells #[Value.int IntKind.i64 (r : Int), Value.int IntKind.i64 (k : Int)] 28)).drewN nq).setCell { block := w.heap.size + 1, off := 0 } (Value.int IntKind.i64 (r : Int))).setCell { block := w.heap.size + 1, off := 1 } (Value.int IntKind.i64 (k : Int))) := ⟨_, rfl⟩
  rw [← hwf]
  have hfb : wf.heap[w.heap.size + 1]? = some (.cells #[.int .i64 (r : Int), .int .i64 (k : Int)] 28 (0, 0)) := by rw [hwf]; exact heap_set2 HQ1.out _ _
  have k0 := blkc0 hfb 0 _ rfl
  have k1 := blkc0 hfb 1 _ rfl
  refine bodyPost_ret (v := .tuple #[.slice mA n n, .agg #[.int .i64 (r : Int), .int .i64 (k : Int)], .int .i64 0]) (by simp [results, Try.results32, go_sem, k0, k1]) rfl ?_
  have hs3 := HS3.out
  have hgf : wf.heap[g]? = w5.heap[g]? := by
    rw [hwf]
    exact (Below.heap_setCell _ _ _ _ (by show g ≠ w.heap.size + 1; omega)).trans ((Below.heap_setCell _ _ _ _ (by show g ≠ w.heap.size + 1; omega)).trans (Below.heap_alloc _ _ _ HG5.out))
  refine ⟨M', mA, g, r, k, rfl, hM', hinv.closed_none (right_gr HP.out) hM' hcl, HRO5.out.keep hgf, by omega, ?_, hr, by rw [sumD_all HP.out] at hk; exact hk, ?_⟩
  · have := HG5.out
    rw [hwf]
    simp [World.setCell]
    omega
  · rw [hwf]
    exact ((below_drewN0 (HB5.out.alloc HB5.out.size _) nq).setCell (p := ⟨_, 0, none⟩) (Nat.le_succ _) _).setCell (p := ⟨_, 1, none⟩) (Nat.le_succ _) _
end Go.Proofs.Ytgddfmfiiodgbaa

/- Rows of edges of a call's own, that grow at their end. -/
namespace Go.Proofs.Ytgddfmfiiodgbaa
open Go Go.RowKit
set_option maxRecDepth 100000
set_option linter.unusedVariables false
set_option linter.unusedSimpArgs false

/-- A row of edges in blocks that are younger than a world. -/
def OwnE (w0 w : World) (v : Value) (xs : List (Int × Int)) : Prop := w.ownsRow w0.heap.size 49 2 v xs.length (pcells xs) ∧ Below w0.heap.size w0 w

section
variable {P : Program} {t : TypeId} {w0 w : World} {v : Value} {xs : List (Int × Int)}

theorem OwnE.nil (w : World) : OwnE w w (.slice none 0 0) [] := ⟨own_nil0 _ _ _ _, Below.refl _ _⟩
theorem OwnE.nil' {w0 w : World} (h : Below w0.heap.size w0 w) : OwnE w0 w (.slice none 0 0) [] := ⟨own_nil0 _ _ _ _, h⟩
theorem OwnE.slice (h : OwnE w0 w v xs) : ∃ A c, v = .slice A xs.length c ∧ xs.length ≤ c ∧ Reads w A (pcells xs) := own_reads0 h.1
theorem OwnE.go {w' : World} (h : OwnE w0 w v xs) (hb : Below w.heap.size w w') : OwnE w0 w' v xs := ⟨own_below0 h.1 hb, h.2.trans (hb.mono h.2.size)⟩
theorem OwnE.drewN (h : OwnE w0 w v xs) (k : Nat) : OwnE w0 (w.drewN k) v xs := h.go (below_drewN0 (Below.refl _ _) k)
theorem OwnE.base {w1 : World} (h : OwnE w1 w v xs) (hb : Below w0.heap.size w0 w1) : OwnE w0 w v xs := ⟨own_cast h.1 hb.size rfl rfl, hb.trans (h.2.mono hb.size)⟩

theorem wpList_snocE {z0 : Value} (E : EI P t 49 z0 2 16) {ops : Array Oper} {rest : List Oper} {o : Oper} {a : Act} {Q : Exit → Act → World → Prop} (hgd : o.guard = none) (s x : Operand)
    (ho : o.op = .call { callee := .builtin .append, args := #[s, x], argTypes := #[t, t] }) (hown : OwnE w0 w v xs) (hs : a.eval s = v) (y z : Int) (g : Nat) (hg : g = w.heap.size) (hx : a.eval x = .slice (some ⟨g, 0, none⟩) 1 1) (hl : xs.length ≤ 5000000)
    (hK : ∀ A c w', OwnE w0 w' (.slice A (xs ++ [(y, z)]).length c) (xs ++ [(y, z)]) → (w.alloc (.cells #[.int .i64 y, .int .i64 z] 49)).grownBy w' v.ownBlock → ((Value.slice A (xs ++ [(y, z)]).length c).ownBlock = v.ownBlock ∨ (Value.slice A (xs ++ [(y, z)]).length c).ownBlock = some (w.heap.size + 1)) →
      wpList P ops Q rest (a.put o.dst (.slice A (xs.length + 1) c)) w') : wpList P ops Q (o :: rest) a (w.alloc (.cells #[.int .i64 y, .int .i64 z] 49)) := by
  subst hg
  have h1 := hown.go ((Below.refl w.heap.size w).alloc (Nat.le_refl _) (.cells #[.int .i64 y, .int .i64 z] 49))
  refine wpList_app E hgd s x ho w0.heap.size v xs.length (pcells xs) hs h1.1 (some ⟨w.heap.size, 0, none⟩) 1 1 [.int .i64 y, .int .i64 z] hx (reads_new w [_, _] _) rfl (by simp [Value.oneCell']) (by omega) h1.2.size ?_
  intro v' w' ho' hg' hat
  obtain ⟨A, c, rfl, hc, _⟩ := own_reads0 ho'
  have e : (xs ++ [(y, z)]).length = xs.length + 1 := by simp
  refine hK A c w' ⟨?_, Below.grown h1.2 hg' h1.2.size (fun k hk => (own_lt0 hown.1 k hk).1)⟩ hg' ?_
  · rw [e]; exact own_cast ho' (Nat.le_refl _) rfl (by simp [pcells])
  · rw [e]
    simpa using hat
end
end Go.Proofs.Ytgddfmfiiodgbaa

/- How many edges a matching has (no program in sight). -/
namespace Go.Proofs.Ytgddfmfiiodgbaa
set_option linter.unusedVariables false
set_option linter.unusedSimpArgs false

def isUp (M : Nat → Option Nat) (v : Nat) : Bool := match M v with | some w => decide (v < w) | none => false
def isDn (M : Nat → Option Nat) (v : Nat) : Bool := match M v with | some w => decide (w < v) | none => false
def upL (n : Nat) (M : Nat → Option Nat) : List Nat := (List.range n).filter (isUp M)
def dnL (n : Nat) (M : Nat → Option Nat) : List Nat := (List.range n).filter (isDn M)
/-- How many edges there are. -/
def sizeM (n : Nat) (M : Nat → Option Nat) : Nat := (upL n M).length
theorem isUp_iff {M : Nat → Option Nat} {v : Nat} : isUp M v = true ↔ ∃ w, M v = some w ∧ v < w := by
  unfold isUp
  cases M v with
  | none => simp
  | some w => simp
theorem isDn_iff {M : Nat → Option Nat} {v : Nat} : isDn M v = true ↔ ∃ w, M v = some w ∧ w < v := by
  unfold isDn
  cases M v with
  | none => simp
  | some w => simp
theorem mem_upL {n : Nat} {M : Nat → Option Nat} {v : Nat} : v ∈ upL n M ↔ v < n ∧ ∃ w, M v = some w ∧ v < w := by
  unfold upL; rw [List.mem_filter, isUp_iff]; simp
theorem mem_dnL {n : Nat} {M : Nat → Option Nat} {v : Nat} : v ∈ dnL n M ↔ v < n ∧ ∃ w, M v = some w ∧ w < v := by
  unfold dnL; rw [List.mem_filter, isDn_iff]; simp
theorem three_filter {α : Type} (p q r : α → Bool) : ∀ l : List α, (∀ x ∈ l, (p x = true ∧ q x = false ∧ r x = false) ∨ (p x = false ∧ q x = true ∧ r x = false) ∨ (p x = false ∧ q x = false ∧ r x = true)) → (l.filter p).length + (l.filter q).length + (l.filter r).length = l.length := by
  intro l
  induction l with
  | nil => intro _; rfl
  | cons x l ih =>
    intro h
    have ih := ih (fun y hy => h y (List.mem_cons_of_mem _ hy))
    rcases h x (by simp) with ⟨h1, h2, h3⟩ | ⟨h1, h2, h3⟩ | ⟨h1, h2, h3⟩ <;> simp [h1, h2, h3] <;> omega

section
variable {n : Nat} {E : Nat → Nat → Prop} {M M' : Nat → Option Nat}
theorem up_dn (hM : IsMat n E M) : (upL n M).length = (dnL n M).length := by
  have hnd : ∀ p : Nat → Bool, ((List.range n).filter p).Nodup := fun p => List.Pairwise.filter _ (nodup_range n)
  apply Nat.le_antisymm
  · refine len_le_rel (fun a b => M a = some b) (fun a a' b h h' => ?_) _ _ (hnd _) (fun a ha => ?_)
    · have h1 := hM.symm h
      rw [hM.symm h'] at h1
      cases h1; rfl
    · obtain ⟨h1, w, h2, h3⟩ := mem_upL.1 ha
      exact ⟨w, mem_dnL.2 ⟨hM.lt (hM.symm h2), a, hM.symm h2, h3⟩, h2⟩
  · refine len_le_rel (fun a b => M a = some b) (fun a a' b h h' => ?_) _ _ (hnd _) (fun a ha => ?_)
    · have h1 := hM.symm h
      rw [hM.symm h'] at h1
      cases h1; rfl
    · obtain ⟨h1, w, h2, h3⟩ := mem_dnL.1 ha
      exact ⟨w, mem_upL.2 ⟨hM.lt (hM.symm h2), a, hM.symm h2, h3⟩, h2⟩
theorem size_free (hg : IsGr n E) (hM : IsMat n E M) : 2 * sizeM n M + (freeL n M).length = n := by
  have h := three_filter (isUp M) (isDn M) (fun v => (M v).isNone) (List.range n) (fun x _ => by
    cases hx : M x with
    | none => simp [isUp, isDn, hx]
    | some w =>
      have hne : w ≠ x := fun e => hg.irr x (hM.edge (by rw [hx, e]))
      simp [isUp, isDn, hx]
      omega)
  have h2 := up_dn hM
  rw [List.length_range] at h
  unfold sizeM freeL
  unfold dnL at h2
  unfold upL at h2 ⊢
  omega
/-- Where no path augments, no other is larger. -/
theorem size_max (hg : IsGr n E) (hM : IsMat n E M) (hM' : IsMat n E M') (hno : ∀ p, ¬ AugW E M p) : sizeM n M' ≤ sizeM n M := by
  have h1 := size_free hg hM
  have h2 := size_free hg hM'
  have h3 := berge hg hM hM' hno
  omega
theorem size_turn (hg : IsGr n E) (hM : IsMat n E M) {p : List Nat} (h : AugW E M p) : sizeM n (turnF p M) = sizeM n M + 1 := by
  obtain ⟨h1, h2⟩ := h.turn hg hM
  have h3 := size_free hg hM
  have h4 := size_free hg h1
  omega
/-- As large a one is largest. -/
theorem no_aug_of_max (hg : IsGr n E) (hM : IsMat n E M) (h : ∀ M', IsMat n E M' → sizeM n M' ≤ sizeM n M) (p : List Nat) : ¬ AugW E M p := fun hp => by
  have h1 := h _ (hp.turn hg hM).1
  have h2 := size_turn hg hM hp
  omega
end
end Go.Proofs.Ytgddfmfiiodgbaa

/- Reference's Edges, Size, Free of matchings. -/
namespace Go.Proofs.Ytgddfmfiiodgbaa
open Go Go.RowKit
set_option maxRecDepth 100000
set_option linter.unusedVariables false
set_option linter.unusedSimpArgs false

/-- A matching's edges. -/
def mEdges (n : Nat) (M : Nat → Option Nat) : List (Int × Int) := (upL n M).map fun (v : Nat) => ((v : Int), encO (M v))
theorem mEdges_succ (k : Nat) (M : Nat → Option Nat) : mEdges (k + 1) M = if isUp M k = true then mEdges k M ++ [((k : Int), encO (M k))] else mEdges k M := by
  unfold mEdges upL
  rw [List.range_succ, List.filter_append]
  by_cases h : isUp M k = true
  · rw [if_pos h]; simp [h]
  · rw [if_neg h]; simp [h]
theorem mEdges_len (k : Nat) (M : Nat → Option Nat) : (mEdges k M).length = sizeM k M := by simp [mEdges, sizeM]
theorem sizeM_le (k : Nat) (M : Nat → Option Nat) : sizeM k M ≤ k := by
  unfold sizeM upL
  have := List.length_filter_le (isUp M) (List.range k)
  simpa using this
theorem freeL_succ (k : Nat) (M : Nat → Option Nat) : freeL (k + 1) M = if M k = none then freeL k M ++ [k] else freeL k M := by
  unfold freeL
  rw [List.range_succ, List.filter_append]
  by_cases h : M k = none
  · rw [if_pos h]; simp [h]
  · rw [if_neg h]; cases hm : M k with
    | none => exact absurd hm h
    | some x => simp [hm]
theorem freeL_le (k : Nat) (M : Nat → Option Nat) : (freeL k M).length ≤ k := by
  unfold freeL
  have := List.length_filter_le (fun v => (M v).isNone) (List.range k)
  simpa using this

set_option maxHeartbeats 2000000 in
theorem medges_any {n : Nat} {E : Nat → Nat → Prop} {M : Nat → Option Nat} (hM : IsMat n E M) (mA : Option Addr) (mc : Nat) (w : World) (hrm : Reads w mA (icells (mateL n M))) (hn : n ≤ 1000000) :
    Calls Try.prog 95 #[.slice mA n mc] w fun e w' => ∃ v, e = .returned v ∧ OwnE w w' v (mEdges n M) := by
  have HRM := Lib.hid hrm
  have HM := Lib.hid hM
  clear hrm hM
  go_enter Try.func95, Try.ntmps95
  go_wp2_with fail
  go_loopw [3, 4] (fun r i wr => ∃ (v : Nat), i = .int .i64 v ∧ v ≤ n ∧ Hid (OwnE w wr r (mEdges v M))) (fun _ i _ => n - (intOf i).toNat)
  case atStart => exact ⟨0, rfl, Nat.zero_le _, OwnE.nil w⟩
  case round =>
    obtain ⟨v, rfl, hv, ho⟩ := hrel
    by_cases hlt : v < n
    · obtain ⟨mb, mo, hmA, _, cx⟩ := (HRM.out.below ho.out.2).int v _ (mateL_get M hlt)
      rw [hmA]
      have HMA := Lib.hid hmA
      have i1 : (0 : Int) ≤ (v : Int) := by omega
      have i2 : (v : Int) < (n : Int) := by omega
      obtain ⟨A0, c0, rfl, hc0, hr0⟩ := ho.out.slice
      cases hMv : M v with
      | none =>
        rw [hMv] at cx
        have hs := Lib.hid (show mEdges (v + 1) M = mEdges v M by rw [mEdges_succ, if_neg (by simp [isUp, hMv])])
        have j1 : ¬ (v : Int) < -1 := by omega
        simp only [encO] at cx
        clear hMv hmA hr0
        go_wp2_with fail
        exact ⟨⟨v + 1, by go_num, by omega, by rw [hs.out]; exact ho⟩, by simp [intOf]; omega⟩
      | some u =>
        rw [hMv] at cx
        simp only [encO] at cx
        have hu := HM.out.symm hMv
        have hun := HM.out.lt hu
        obtain ⟨mb1, mo1, hmA', _, cy⟩ := (HRM.out.below ho.out.2).int u _ (mateL_get M hun)
        rw [hmA] at hmA'
        obtain ⟨rfl, rfl⟩ : mb1 = mb ∧ mo1 = mo := by simp at hmA'; omega
        rw [hu] at cy
        simp only [encO] at cy
        have u1 : (0 : Int) ≤ (u : Int) := by omega
        have u2 : (u : Int) < (n : Int) := by omega
        by_cases hvu : v < u
        · have hs := Lib.hid (show mEdges (v + 1) M = mEdges v M ++ [((v : Int), (u : Int))] by rw [mEdges_succ, if_pos (by simp [isUp, hMv, hvu]), hMv]; rfl)
          have j1 : (v : Int) < (u : Int) := by omega
          have hal : (mEdges v M).length ≤ 5000000 := by rw [mEdges_len]; have := sizeM_le v M; omega
          have HAL := Lib.hid hal
          clear hMv hmA hr0 hmA' hu hal
          go_wp2_with (at_builtin; go_loud ((refine wpList_snocE EI_edge rfl (.tmp 33) (.tmp 37) rfl ho.out rfl (v : Int) (u : Int) wr.heap.size rfl rfl HAL.out ?_); intro A2 c2 w2 ho2 _ _))
          refine ⟨⟨v + 1, by go_num, by omega, ?_⟩, by simp [intOf]; omega⟩
          rw [hs.out]
          simpa using Lib.hid ho2
        · have hs := Lib.hid (show mEdges (v + 1) M = mEdges v M by rw [mEdges_succ, if_neg (by simp [isUp, hMv]; omega)])
          have j1 : ¬ (v : Int) < (u : Int) := by omega
          clear hMv hmA hr0 hmA' hu
          go_wp2_with fail
          exact ⟨⟨v + 1, by go_num, by omega, by rw [hs.out]; exact ho⟩, by simp [intOf]; omega⟩
    · obtain rfl : v = n := by omega
      go_wp2_with fail
      go_ret
      exact ⟨_, rfl, ho.out⟩

set_option maxHeartbeats 1000000 in
theorem msize_any {n : Nat} {E : Nat → Nat → Prop} {M : Nat → Option Nat} (hM : IsMat n E M) (mA : Option Addr) (mc : Nat) (w : World) (hrm : Reads w mA (icells (mateL n M))) (hn : n ≤ 1000000) :
    Calls Try.prog 35 #[.slice mA n mc] w fun e w' => e = .returned (.int .i64 ((sizeM n M : Nat) : Int)) ∧ Below w.heap.size w w' := by
  have HE := medges_any hM mA mc w hrm hn
  have hl := mEdges_len n M
  have hl2 := sizeM_le n M
  clear hrm
  go_enter Try.func35, Try.ntmps35
  go_wp2_with (go_at_call 95; (refine HE.mono ?_; rintro e w2 ⟨v, rfl, ho⟩; obtain ⟨A, c, rfl, hc, _⟩ := ho.slice))
  go_ret
  exact ⟨rfl, ho.2⟩

set_option maxHeartbeats 2000000 in
theorem mfree_any {n : Nat} {M : Nat → Option Nat} (mA : Option Addr) (mc : Nat) (w : World) (hrm : Reads w mA (icells (mateL n M))) (hn : n ≤ 1000000) :
    Calls Try.prog 49 #[.slice mA n mc] w fun e w' => ∃ v, e = .returned v ∧ OwnI w w' v (natI (freeL n M)) := by
  have HRM := Lib.hid hrm
  clear hrm
  go_enter Try.func49, Try.ntmps49
  go_wp2_with fail
  go_loopw [3, 4] (fun r i wr => ∃ (v : Nat), i = .int .i64 v ∧ v ≤ n ∧ Hid (OwnI w wr r (natI (freeL v M)))) (fun _ i _ => n - (intOf i).toNat)
  case atStart => exact ⟨0, rfl, Nat.zero_le _, OwnI.nil w⟩
  case round =>
    obtain ⟨v, rfl, hv, ho⟩ := hrel
    by_cases hlt : v < n
    · obtain ⟨mb, mo, hmA, _, cx⟩ := (HRM.out.below ho.out.2).int v _ (mateL_get M hlt)
      rw [hmA]
      have i1 : (0 : Int) ≤ (v : Int) := by omega
      have i2 : (v : Int) < (n : Int) := by omega
      obtain ⟨A0, c0, rfl, hc0, hr0⟩ := ho.out.slice
      cases hMv : M v with
      | none =>
        rw [hMv] at cx
        simp only [encO] at cx
        have hs := Lib.hid (show natI (freeL (v + 1) M) = natI (freeL v M) ++ [(v : Int)] by rw [freeL_succ, if_pos hMv]; simp [natI])
        have hal : (natI (freeL v M)).length ≤ 10000000 := by rw [natI_length]; have := freeL_le v M; omega
        have HAL := Lib.hid hal
        clear hMv hmA hr0 hal
        go_wp2_with (at_builtin; go_loud ((refine wpList_snocI EI_int rfl (.tmp 16) (.tmp 18) rfl ho.out rfl (v : Int) wr.heap.size rfl rfl HAL.out ?_); intro A2 c2 w2 ho2 _ _))
        refine ⟨⟨v + 1, by go_num, by omega, ?_⟩, by simp [intOf]; omega⟩
        rw [hs.out]
        simpa using Lib.hid ho2
      | some u =>
        rw [hMv] at cx
        simp only [encO] at cx
        have hs := Lib.hid (show natI (freeL (v + 1) M) = natI (freeL v M) by rw [freeL_succ, if_neg (by rw [hMv]; simp)])
        have j1 : ((u : Int) == -1) = false := by rw [beq_eq_false_iff_ne]; omega
        clear hMv hmA hr0
        go_wp2_with fail
        exact ⟨⟨v + 1, by go_num, by omega, by rw [hs.out]; exact ho⟩, by simp [intOf]; omega⟩
    · obtain rfl : v = n := by omega
      go_wp2_with fail
      go_ret
      exact ⟨_, rfl, ho.out⟩
end Go.Proofs.Ytgddfmfiiodgbaa
