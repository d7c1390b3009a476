/- Walks of entries' Push and Pop, heap's Push and Pop, and of the queue's methods. -/
import Derived.Test.YtglhdoibglafbaaU06
import Derived.Deep.RegionLaw
namespace Go.Proofs.Ytglhdoibglafbaa
open Go Go.RowKit
set_option maxRecDepth 100000
set_option linter.unusedVariables false
set_option linter.unusedSimpArgs false

theorem reads_new2 (w : World) (o : Obj) (cs : List Value) (t : TypeId) : Reads (((w.alloc o).alloc (.cells cs.toArray t)).drew) (some ⟨w.heap.size + 1, 0, none⟩) cs := by
  have h := reads_new (w.alloc o) cs t
  rw [World.size_alloc] at h
  exact h

theorem Touch.trans' {q : Nat} {v v' : Value} {a b c : World} (h : Touch q v a b) (k : Touch q v' b c) (hv : ∀ g, v'.ownBlock = some g → v.ownBlock = some g ∨ a.heap.size ≤ g) : Touch q v a c :=
  ⟨k.os.trans h.os, k.tape.trans h.tape, k.output.trans h.output, Nat.le_trans h.size k.size, fun i hi h1 h2 => (k.block i (Nat.lt_of_lt_of_le hi h.size) h1 (fun e => by
    rcases hv i e with h9 | h9
    · exact h2 h9
    · omega)).trans (h.block i hi h1 h2)⟩
theorem Touch.setq {q : Nat} {v : Value} {a b : World} (h : Touch q v a b) (o : Nat) (u : Value) : Touch q v a (b.setCell ⟨q, o, none⟩ u) :=
  h.trans ⟨rfl, rfl, rfl, by simp [World.setCell], fun k hk hne _ => Below.heap_setCell _ _ _ _ hne⟩
/-- The row is the same, or a new one. -/
def SameOr (v v' : Value) (w : World) : Prop := ∀ g, v'.ownBlock = some g → v.ownBlock = some g ∨ w.heap.size ≤ g

theorem own_less {w : World} {B e size : Nat} {A : Option Addr} {n m c : Nat} {xs : List Value} (h : w.ownsRow B e size (.slice A n c) n xs) (hm : m ≤ n) (hn : 0 < n) : w.ownsRow B e size (.slice A m c) m (xs.take (m * size)) := by
  obtain ⟨g, c', cur, hv, hb, _, hg, hnc, hcm, hcl, hct⟩ := own_open h hn
  simp only [Value.slice.injEq] at hv
  obtain ⟨rfl, _, rfl⟩ := hv
  refine own_shut hb hg (by omega) hcm hcl ?_
  rw [← hct, List.take_take, Nat.min_eq_left (Nat.mul_le_mul_right _ hm)]

def PushPost (q B : Nat) (v : Value) (es : List PE) (x y : Int) (w : World) (e : Ending) (w' : World) : Prop :=
  ∃ v', e = .returned (.tuple #[]) ∧ QAt w' q B v' (es ++ [(x, y)]) ∧ Touch q v w w' ∧ SameOr v v' w

set_option maxHeartbeats 2000000 in
theorem ePush (q B : Nat) (v : Value) (es : List PE) (x y : Int) (w : World) (hq : QAt w q B v es) (hB : B ≤ w.heap.size) (hm : es.length ≤ 4000000) :
    Calls Try.prog 162 #[.pointer (some ⟨q, 0, none⟩), .iface 39 (.agg #[.int .i64 x, .int .i64 y])] w (PushPost q B v es x y w) := by
  obtain ⟨A, c, rfl, hc, hr⟩ := own_reads0 hq.own
  have hcell := hq.cell
  have hfz := hq.frozen
  have hql := hq.lt
  have HQ := Lib.hid hq
  clear hq hr
  have hta : ∀ w0 : World, (Instr.typeAssert (.iface 39 (.agg #[.int .i64 x, .int .i64 y])) 20 39 true).run Try.prog w0 = .ok (.tuple #[.agg #[.int .i64 x, .int .i64 y], .bool true]) w0 := fun w0 => by kernel_rfl
  go_enter Try.func162, Try.ntmps162
  go_wp2_with fail
  have hnq : w.heap.size ≠ q := by omega
  have hE := blk2 (heap_alloc_new w (Obj.cells #[Value.int .i64 x, Value.int .i64 y] 39))
  have hX := reads_new2 w (Obj.cells #[Value.int .i64 x, Value.int .i64 y] 39) [Value.int .i64 x, Value.int .i64 y] 39
  have HX := Lib.hid hX
  clear hX hE hta
  go_region_law (go_loud (
    refine step_app EI_entry rfl (.tmp 15) (.tmp 17) rfl B (.slice A es.length c) es.length (pcells es) rfl ?_ (some ⟨w.heap.size + 1, 0, none⟩) 1 1 [.int .i64 x, .int .i64 y] rfl ?_ rfl ?_ ?_ ?_ ?_
    · exact own_below0 HQ.out.own (by (repeat (first | with_reducible exact Below.refl _ _ | with_reducible assumption | with_reducible refine below_drewN0 ?_ _ | with_reducible refine Below.drew ?_ | with_reducible refine Below.alloc ?_ ?_ _ | with_reducible refine Below.setCell ?_ ?_ _ | go_size | exact Below.size (by assumption))))
    · exact HX.out
    · simp [Value.oneCell']
    · omega
    · go_size
    intro v2 w2 hown2 hg2 hat2
    obtain ⟨A2, c2, rfl, hc2, _⟩ := own_reads0 hown2
    have hqne : some q ≠ (Value.slice A es.length c).ownBlock := fun hx => by have := (own_lt0 HQ.out.own q hx.symm).1; have := HQ.out.hB; omega
    have hbq : w2.heap[q]? = some (.cells #[.slice A es.length c] 90 (0, 0)) := (hg2.block q (by simp; omega) hqne).trans (heap_old (heap_old HQ.out.blk))
    have hc0 := blkc0 hbq 0 _ rfl
    have hf0 := blkf0 hbq 0
    have HBQ := Lib.hid hbq
    clear hbq))
  all_goals
    go_wp2_with fail
    go_end0
    have hX : Below w.heap.size w (((w.alloc (Obj.cells #[Value.int .i64 x, Value.int .i64 y] 39)).alloc (Obj.cells #[Value.int .i64 x, Value.int .i64 y] 39)).drew) := by (repeat (first | with_reducible exact Below.refl _ _ | with_reducible assumption | with_reducible refine below_drewN0 ?_ _ | with_reducible refine Below.drew ?_ | with_reducible refine Below.alloc ?_ ?_ _ | with_reducible refine Below.setCell ?_ ?_ _ | go_size | exact Below.size (by assumption)))
    refine ⟨_, rfl, ⟨blk_put HBQ.out 0 _, own_set (own_cast hown2 (Nat.le_refl _) (by simp) (by rw [pcells_append]; rfl)) HQ.out.hB _, HQ.out.hB⟩, (((Touch.refl q _ w).below hX).grown hg2).setq 0 _, ?_⟩
    intro g' hg'
    rcases hat2 with h9 | h9
    · exact .inl (h9.symm.trans hg')
    · rw [h9] at hg'
      right
      simp at hg'
      omega

def PopPost (q B : Nat) (v : Value) (es : List PE) (x y : Int) (w : World) (e : Ending) (w' : World) : Prop :=
  ∃ v', e = .returned (.iface 39 (.agg #[.int .i64 x, .int .i64 y])) ∧ QAt w' q B v' es ∧ Touch q v w w' ∧ v'.ownBlock = v.ownBlock

set_option maxHeartbeats 2000000 in
theorem ePop (q B : Nat) (v : Value) (es : List PE) (x y : Int) (w : World) (hq : QAt w q B v (es ++ [(x, y)])) (hm : es.length ≤ 4000000) :
    Calls Try.prog 161 #[.pointer (some ⟨q, 0, none⟩)] w (PopPost q B v es x y w) := by
  obtain ⟨g, c, cur, rfl, hBg, hgl, _, hnc, _, _, _⟩ := own_open hq.own (by simp)
  have hl : (es ++ [(x, y)]).length = es.length + 1 := by simp
  rw [hl] at hq hnc ⊢
  have hcell := hq.cell
  have hfz := hq.frozen
  have hql := hq.lt
  have hgq : g ≠ q := by have := hq.hB; omega
  have ho := hq.own
  rw [hl] at ho
  have hrd := (own_reads1 ho).1
  obtain ⟨b0, o0, hbo, _, e1, e2⟩ := hrd.pair' es.length (x, y) (by simp)
  obtain ⟨rfl, rfl⟩ : b0 = g ∧ o0 = 0 := by simpa using hbo.symm
  rw [Nat.zero_add] at e1 e2
  have HQ := Lib.hid hq
  have HO := Lib.hid (own_less ho (Nat.le_succ es.length) (by omega))
  have i1 : ((es.length + 1 : Nat) : Int) - 1 = (es.length : Int) := by omega
  have i2 : (es.length : Int) < (es.length : Int) + 1 := by omega
  have i3 : (es.length : Int) ≤ (c : Int) := by omega
  clear hq ho hrd hbo hl
  go_enter Try.func161, Try.ntmps161
  go_wp2_with fail
  go_ret
  have ht : (pcells (es ++ [(x, y)])).take (es.length * 2) = pcells es := by
    rw [pcells_append, List.take_append_of_le_length (by rw [pcells_length]; omega), List.take_of_length_le (by rw [pcells_length]; omega)]
  have hO := HO.out
  rw [ht] at hO
  have hq1 : QAt (w.setCell ⟨q, 0, none⟩ (.slice (some ⟨b0, 0, none⟩) es.length c)) q B (.slice (some ⟨b0, 0, none⟩) es.length c) es := ⟨blk_put HQ.out.blk 0 _, own_set hO HQ.out.hB _, HQ.out.hB⟩
  refine ⟨_, rfl, hq1.below (Below.alloc (Below.refl _ _) (Nat.le_refl _) _), ((Touch.refl q _ w).setq 0 _).below (Below.alloc (Below.refl _ _) (Nat.le_refl _) _), rfl⟩

def HPushPost (q B : Nat) (v : Value) (es : List PE) (x y : Int) (w : World) (e : Ending) (w' : World) : Prop :=
  ∃ (v' : Value) (es' : List PE), e = .returned (.tuple #[]) ∧ QAt w' q B v' es' ∧ es'.Perm ((x, y) :: es) ∧ HeapN es' es'.length ∧ Touch q v w w' ∧ SameOr v v' w

set_option maxHeartbeats 2000000 in
theorem hPush (q B : Nat) (v : Value) (es : List PE) (x y : Int) (w : World) (hq : QAt w q B v es) (hh : HeapN es es.length) (hB : B ≤ w.heap.size) (hm : es.length ≤ 3000000) :
    Calls Try.prog 62 #[.iface 92 (.pointer (some ⟨q, 0, none⟩)), .iface 39 (.agg #[.int .i64 x, .int .i64 y])] w (HPushPost q B v es x y w) := by
  have HP := ePush q B v es x y w hq hB (by omega)
  have hn1 := nil_ptr "Push" 0 (.inr (.inr (.inr (.inl rfl)))) ⟨q, 0, none⟩ w
  have hm1 := m_push ⟨q, 0, none⟩ w
  have hl : (es ++ [(x, y)]).length = es.length + 1 := by simp
  have HH := Lib.hid hh
  have HL := Lib.hid hl
  clear hq hh hl
  go_enter Try.func62, Try.ntmps62
  go_wp2_with (first
    | (go_at_call 162; go_loud (refine HP.mono ?_; rintro e w1 ⟨v1, rfl, hq1, ht1, hs1⟩; obtain ⟨A1, c1, rfl, hc1, _⟩ := own_reads0 hq1.own; (have hn2 := nil_ptr "Len" 0 (.inr (.inl rfl)) ⟨q, 0, none⟩ w1); have hm2 := m_len hq1.cell; have HQ1 := Lib.hid hq1; have HS1 := Lib.hid hs1; clear hq1 hs1 hn1 hm1; rw [HL.out] at hm2))
    | (go_at_call 158; go_loud (refine (lenQ _ _ _ _).mono ?_; rintro e w2 ⟨rfl, rfl⟩))
    | (go_at_call 92; go_loud (refine (up_any q B _ (es ++ [(x, y)]) es.length _ HQ1.out (up_start HH.out (x, y)) (by rw [HL.out]; omega) (by rw [HL.out]; omega)).mono ?_; rintro e w3 ⟨es', rfl, hq3, hp3, hh3, ht3⟩)))
  go_end0
  exact ⟨_, es', rfl, hq3, hp3.trans (List.perm_append_comm (l₁ := es) (l₂ := [(x, y)])), hh3, ht1.trans' ht3 HS1.out, HS1.out⟩

def HPopPost (q B : Nat) (v : Value) (es : List PE) (x : PE) (w : World) (e : Ending) (w' : World) : Prop :=
  ∃ (v' : Value) (es' : List PE), e = .returned (.iface 39 (.agg #[.int .i64 x.1, .int .i64 x.2])) ∧ QAt w' q B v' es' ∧ (x :: es').Perm es ∧ HeapN es' es'.length ∧ Touch q v w w' ∧ v'.ownBlock = v.ownBlock

theorem HeapN.take {l : List PE} {m : Nat} (h : HeapN l m) : HeapN (l.take m) (l.take m).length := by
  intro i h0 hi a b ha hb
  rw [List.length_take] at hi
  rw [List.getElem?_take] at ha hb
  split at ha
  · split at hb
    · exact h i h0 (by omega) a b ha hb
    · cases hb
  · cases ha
theorem take_last {l : List PE} {m : Nat} {x : PE} (hl : l.length = m + 1) (hx : l[m]? = some x) : l = l.take m ++ [x] := by
  have h := List.take_append_drop m l
  have hd : l.drop m = [x] := by
    apply List.ext_getElem?
    intro i
    rw [List.getElem?_drop]
    cases i with
    | zero => simpa using hx
    | succ i => rw [List.getElem?_eq_none (by omega)]; simp
  rw [hd] at h
  exact h.symm

set_option maxHeartbeats 2000000 in
theorem hPop (q B m : Nat) (v : Value) (es : List PE) (x : PE) (w : World) (hq : QAt w q B v es) (hh : HeapN es es.length) (hx : es[0]? = some x) (hlen : es.length = m + 1) (hm : es.length ≤ 3000000) :
    Calls Try.prog 63 #[.iface 92 (.pointer (some ⟨q, 0, none⟩))] w (HPopPost q B v es x w) := by
  obtain ⟨g, c, cur, rfl, hBg, hgl, _, hnc, _, _, _⟩ := own_open hq.own (by omega)
  have hgq : g ≠ q := by have := hq.hB; omega
  obtain ⟨y, hy⟩ : ∃ y, es[m]? = some y := ⟨es[m], by simp⟩
  have hn1 := nil_ptr "Len" 0 (.inr (.inl rfl)) ⟨q, 0, none⟩ w
  have hn2 := nil_ptr "Swap" 0 (.inr (.inr (.inl rfl))) ⟨q, 0, none⟩ w
  have hm1 := m_len hq.cell
  have hm2 := m_swap hq.cell
  have HSW := swapQ es 0 m x y hx hy B g c w hq.own (by omega)
  have hds := down_start hh (show m + 1 = es.length by omega)
  have hsl := swapL_length es 0 m
  have hsx : (swapL es 0 m)[m]? = some x := by
    rw [swapL_get hx hy, if_pos rfl]
  have HQ := Lib.hid hq
  have HX := Lib.hid hsx
  have HDS := Lib.hid hds
  have HSL := Lib.hid hsl
  have HLEN := Lib.hid hlen
  rw [hlen] at hm1 hm2 HSW
  have i1 : ((m + 1 : Nat) : Int) - 1 = (m : Int) := by omega
  rw [hlen] at hnc hm ⊢
  clear hq hh hx hy hds hsl hsx hlen
  go_enter Try.func63, Try.ntmps63
  go_wp2_with (first
    | (go_at_call 158; go_loud (refine (lenQ _ _ _ _).mono ?_; rintro e w2 ⟨rfl, rfl⟩))
    | (go_at_call 160; go_loud (refine HSW.mono ?_; rintro e w2 ⟨rfl, ho2, hg2⟩; have HQ2 : Hid (QAt w2 q B (.slice (some ⟨g, 0, none⟩) (m + 1) c) (swapL es 0 m)) := QAt.swap (by have h9 := HQ.out; rw [HLEN.out] at h9; exact h9) (by rw [HSL.out, HLEN.out]; exact ho2) hg2 hgq; clear hn1 hn2 hm1 hm2 ho2))
    | (go_at_call 93; go_loud (refine (down_any q B _ (swapL es 0 m) m _ HQ2.out HDS.out (by rw [HSL.out, HLEN.out]; omega) (by rw [HSL.out, HLEN.out]; omega)).mono ?_; rintro e w3 ⟨es3, b3, rfl, hq3, hp3, hh3, ho3, ht3⟩; have hn3 := nil_ptr "Pop" 0 (.inr (.inr (.inr (.inr rfl)))) ⟨q, 0, none⟩ w3; have hm3 := m_pop ⟨q, 0, none⟩ w3; have HQ3 := Lib.hid hq3; have HP3 := Lib.hid hp3; have HH3 := Lib.hid hh3; have HO3 := Lib.hid ho3; clear hq3 hp3 hh3 ho3))
    | (go_at_call 161; go_loud (
       have hes3 : es3 = es3.take m ++ [(x.1, x.2)] := take_last (by rw [HP3.out.length_eq, HSL.out, HLEN.out]) (by rw [HO3.out m (Nat.le_refl _)]; exact HX.out)
       refine (ePop q B _ (es3.take m) x.1 x.2 _ (by rw [← hes3]; exact HQ3.out) (by rw [List.length_take]; omega)).mono ?_
       have HES3 := Lib.hid hes3
       clear hes3
       rintro e w4 ⟨v4, rfl, hq4, ht4, hv4⟩)))
  go_ret
  refine ⟨v4, es3.take m, rfl, hq4, ?_, HH3.out.take, ?_, hv4⟩
  · have h1 : es3.Perm es := HP3.out.trans (swapL_perm _ _ _)
    have h2 : (x :: es3.take m).Perm es3 := by
      have h3 := HES3.out
      conv => rhs; rw [h3]
      exact (List.perm_append_comm (l₁ := [x]) (l₂ := es3.take m))
    exact h2.trans h1
  · have h1 : Touch q (.slice (some ⟨g, 0, none⟩) (m + 1) c) w w2 := (Touch.refl _ _ _).grown hg2
    exact (h1.trans ht3).trans ht4

end Go.Proofs.Ytglhdoibglafbaa

/- Walks of the queue's methods. -/
namespace Go.Proofs.Ytglhdoibglafbaa
open Go Go.RowKit
set_option maxRecDepth 100000
set_option linter.unusedVariables false
set_option linter.unusedSimpArgs false

theorem qNew (w : World) : Calls Try.prog 17 #[] w fun e w' => e = .returned (.pointer (some ⟨w.heap.size, 0, none⟩)) ∧ QAt w' w.heap.size (w.heap.size + 1) (.slice none 0 0) [] ∧ Below w.heap.size w w' ∧ w'.heap.size = w.heap.size + 1 := by
  go_enter Try.func17, Try.ntmps17
  go_wp2
  go_ret
  exact ⟨rfl, ⟨heap_alloc_new w _, own_nil0 _ _ _ _, by omega⟩, by (repeat (first | with_reducible exact Below.refl _ _ | with_reducible assumption | with_reducible refine below_drewN0 ?_ _ | with_reducible refine Below.drew ?_ | with_reducible refine Below.alloc ?_ ?_ _ | with_reducible refine Below.setCell ?_ ?_ _ | go_size | exact Below.size (by assumption))), by simp⟩

theorem qLen (q B : Nat) (v : Value) (es : List PE) (w : World) (hq : QAt w q B v es) : Calls Try.prog 24 #[.pointer (some ⟨q, 0, none⟩)] w fun e w' => e = .returned (.int .i64 (es.length : Int)) ∧ w = w' := by
  obtain ⟨A, c, rfl, hc, _⟩ := own_reads0 hq.own
  have hcell := hq.cell
  clear hq
  go_enter Try.func24, Try.ntmps24
  go_wp2
  go_ret
  simp

def QPushPost (q B : Nat) (v : Value) (es : List PE) (x y : Int) (w : World) (e : Ending) (w' : World) : Prop :=
  ∃ (v' : Value) (es' : List PE), e = .returned (.int .i64 0) ∧ QAt w' q B v' es' ∧ es'.Perm ((x, y) :: es) ∧ HeapN es' es'.length ∧ Touch q v w w' ∧ SameOr v v' w

set_option maxHeartbeats 2000000 in
theorem qPush (q B : Nat) (v : Value) (es : List PE) (x y : Int) (w : World) (hq : QAt w q B v es) (hh : HeapN es es.length) (hB : B ≤ w.heap.size) (hm : es.length < 2000000) :
    Calls Try.prog 19 #[.pointer (some ⟨q, 0, none⟩), .agg #[.int .i64 x, .int .i64 y]] w (QPushPost q B v es x y w) := by
  have hb1 : Below w.heap.size w (w.alloc (Obj.cells #[Value.int .i64 x, Value.int .i64 y] 39)) := by (repeat (first | with_reducible exact Below.refl _ _ | with_reducible assumption | with_reducible refine below_drewN0 ?_ _ | with_reducible refine Below.drew ?_ | with_reducible refine Below.alloc ?_ ?_ _ | with_reducible refine Below.setCell ?_ ?_ _ | go_size | exact Below.size (by assumption)))
  have hcell := hq.cell
  have hql := hq.lt
  have HP := fun W hQ hBW => hPush q B v es x y W hQ hh hBW (by omega)
  have HQ := Lib.hid hq
  obtain ⟨A, c, rfl, hc, _⟩ := own_reads0 hq.own
  have i1 : ¬ ((2000000 : Int) ≤ (es.length : Int)) := by omega
  clear hq hh
  go_enter Try.func19, Try.ntmps19
  go_upto_region 5 with fail
  (refine wp_quiet_tail 6 (by kernel_rfl) (by kernel_rfl) ?_
   simp only [List.take_succ_cons, List.take_zero, List.drop_succ_cons, List.drop_zero]
   repeat (go_big_quiet_step (fail))
   refine wpQuiet_nil ?_
   intro _ hw'
   obtain ⟨nq, hw''⟩ := hw'
   subst hw'')
  go_wp2_with (go_at_call 62; go_loud (
    refine (HP _ ?_ ?_).mono ?_
    · exact (HQ.out.below hb1).below (by (repeat (first | with_reducible exact Below.refl _ _ | with_reducible assumption | with_reducible refine below_drewN0 ?_ _ | with_reducible refine Below.drew ?_ | with_reducible refine Below.alloc ?_ ?_ _ | with_reducible refine Below.setCell ?_ ?_ _ | go_size | exact Below.size (by assumption))))
    · go_size
    rintro e w2 ⟨v2, es2, rfl, hq2, hp2, hh2, ht2, hs2⟩))
  go_ret
  refine ⟨v2, es2, rfl, hq2, hp2, hh2, ?_, ?_⟩
  · exact ((Touch.refl q _ w).below (by (repeat (first | with_reducible exact Below.refl _ _ | with_reducible assumption | with_reducible refine below_drewN0 ?_ _ | with_reducible refine Below.drew ?_ | with_reducible refine Below.alloc ?_ ?_ _ | with_reducible refine Below.setCell ?_ ?_ _ | go_size | exact Below.size (by assumption))))).trans ht2
  · intro g hg
    rcases hs2 g hg with h9 | h9
    · exact .inl h9
    · right; simp at h9; omega

theorem qPeek (q B : Nat) (v : Value) (es : List PE) (x : PE) (w : World) (hq : QAt w q B v es) (hx : es[0]? = some x) :
    Calls Try.prog 23 #[.pointer (some ⟨q, 0, none⟩)] w fun e w' => e = .returned (.tuple #[.agg #[.int .i64 x.1, .int .i64 x.2], .int .i64 0]) ∧ Below w.heap.size w w' := by
  obtain ⟨g, c, cur, rfl, hBg, hgl, _, hnc, _, _, _⟩ := own_open hq.own (by have := (List.getElem?_eq_some_iff.1 hx).1; omega)
  have hcell := hq.cell
  have hql := hq.lt
  have hrd := (own_reads1 hq.own).1
  obtain ⟨b0, o0, hbo, _, e1, e2⟩ := hrd.pair' 0 x hx
  obtain ⟨rfl, rfl⟩ : b0 = g ∧ o0 = 0 := by simpa using hbo.symm
  simp only [Nat.zero_mul, Nat.add_zero, Nat.zero_add] at e1 e2
  have hl := (List.getElem?_eq_some_iff.1 hx).1
  have i1 : ((es.length : Int) == 0) = false := by simp; intro h; rw [h] at hl; simp at hl
  have i2 : (0 : Int) < (es.length : Int) := by omega
  clear hq hx hrd hbo
  go_enter Try.func23, Try.ntmps23
  go_wp2_with fail
  refine bodyPost_ret (v := .tuple #[.agg #[.int .i64 x.1, .int .i64 x.2], .int .i64 0]) (by simp [results, Try.results23, go_sem]) rfl ?_
  exact ⟨rfl, by (repeat (first | with_reducible exact Below.refl _ _ | with_reducible assumption | with_reducible refine below_drewN0 ?_ _ | with_reducible refine Below.drew ?_ | with_reducible refine Below.alloc ?_ ?_ _ | with_reducible refine Below.setCell ?_ ?_ _ | go_size | exact Below.size (by assumption)))⟩

end Go.Proofs.Ytglhdoibglafbaa
