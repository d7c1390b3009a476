/- What Make has gathered, sorted, is what putting edge by edge makes: plain. -/
import Derived.Test.YtglhdoibglafbaaU10
import Derived.Test.YtglhdoibglafbaaU23
namespace Go.Proofs.Ytglhdoibglafbaa
open Go Go.RowKit
set_option maxRecDepth 100000
set_option linter.unusedVariables false
set_option linter.unusedSimpArgs false

def makeK (n : Int) : List (Int × Int) → List (Int × Int) → Int × List (Int × Int)
  | S, [] => (0, S)
  | S, (a, b) :: l =>
    if ¬ (0 ≤ min a b ∧ max a b < n) then (4, []) else if min a b = max a b then (5, []) else if (min a b, max a b) ∈ S then (6, []) else makeK n (S ++ [(min a b, max a b)]) l

theorem sortL_snoc (l : List PE) (e : PE) : sortL (l ++ [e]) = putE (sortL l) e := by simp [sortL, List.foldl_append]

theorem makeK_both {n : Int} : ∀ (l S : List (Int × Int)), RightP n (sortL S) → S.length + l.length ≤ 60000 → (makeF n (sortL S) l).1 = (makeK n S l).1 ∧ ((makeK n S l).1 = 0 → (makeF n (sortL S) l).2 = sortL (makeK n S l).2)
  | [], S, hr, hl => ⟨rfl, fun _ => rfl⟩
  | (a, b) :: l, S, hr, hl => by
    have hB : rightB n (sortL S) = true := (right_iff _ _).2 hr
    have hmem : (min a b, max a b) ∈ sortL S ↔ (min a b, max a b) ∈ S := (sortL_perm S).mem_iff
    have hl' : ¬ 65536 ≤ (sortL S).length := by rw [sortL_length]; simp at hl; omega
    rw [makeF, makeK]
    by_cases h1 : 0 ≤ min a b ∧ max a b < n
    · rw [if_neg (c := ¬ (0 ≤ min a b ∧ max a b < n)) (fun h => h h1)]
      have ha : isB n a = true := by unfold isB; rw [decide_eq_true_iff]; omega
      have hb : isB n b = true := by unfold isB; rw [decide_eq_true_iff]; omega
      by_cases h2 : min a b = max a b
      · have hab : a = b := by omega
        rw [if_pos h2]
        have hE : addErr n (sortL S) a b = 5 := by unfold addErr; rw [hB, ha, hb, if_pos hab]; simp
        rw [hE]; simp
      · rw [if_neg h2]
        have hne : ¬ a = b := by omega
        by_cases h3 : (min a b, max a b) ∈ S
        · rw [if_pos h3]
          have hH : hasB n (sortL S) a b = true := (hasB_iff hB a b).2 (hmem.2 h3)
          have hE : addErr n (sortL S) a b = 6 := by unfold addErr; rw [hB, ha, hb, if_neg hne, hH]; simp
          rw [hE]; simp
        · rw [if_neg h3]
          have hH : hasB n (sortL S) a b = false := by
            rw [Bool.eq_false_iff]
            exact fun h => h3 (hmem.1 ((hasB_iff hB a b).1 h))
          have hE : addErr n (sortL S) a b = 0 := by unfold addErr; rw [hB, ha, hb, if_neg hne, hH, if_neg hl']; simp
          rw [hE, if_pos rfl, ← sortL_snoc]
          have hz := addErr_zero hE
          exact makeK_both l _ (by rw [sortL_snoc]; exact hz.2.1) (by simp at hl ⊢; omega)
    · rw [if_pos h1]
      have hE : addErr n (sortL S) a b = 4 := by
        unfold addErr
        rw [hB]
        by_cases ha : isB n a = false
        · rw [ha]; simp
        · by_cases hb : isB n b = false
          · rw [hb]; simp
          · exfalso
            unfold isB at ha hb
            simp only [decide_eq_false_iff_not, Classical.not_not] at ha hb
            omega
      rw [hE]; simp

theorem right_none {n : Int} (h0 : 0 ≤ n) (h1 : n ≤ 4096) : RightP n [] := ⟨h0, h1, by simp, by simp, by simp⟩

theorem makeF_right {n : Int} : ∀ (l es : List (Int × Int)), RightP n es → RightP n (makeF n es l).2 ∨ (makeF n es l).1 ≠ 0
  | [], es, hr => .inl hr
  | (a, b) :: l, es, hr => by
    rw [makeF]
    by_cases h : addErr n es a b = 0
    · rw [if_pos h]
      exact makeF_right l _ (addErr_zero h).2.1
    · rw [if_neg h]
      exact .inr h
theorem makeF_length {n : Int} : ∀ (l es : List (Int × Int)), (makeF n es l).2.length ≤ es.length + l.length
  | [], es => by simp [makeF]
  | (a, b) :: l, es => by
    rw [makeF]
    split
    · have := makeF_length (n := n) l (putE es (min a b, max a b))
      rw [putE_length] at this
      simp; omega
    · simp
theorem makeK_length {n : Int} : ∀ (l S : List (Int × Int)), (makeK n S l).2.length ≤ S.length + l.length
  | [], S => by simp [makeK]
  | (a, b) :: l, S => by
    rw [makeK]
    split
    · simp
    split
    · simp
    split
    · simp
    · have := makeK_length (n := n) l (S ++ [(min a b, max a b)])
      simp at this ⊢; omega

/-- An edge, its lesser end first. -/
def nrm (e : Int × Int) : Int × Int := (min e.1 e.2, max e.1 e.2)

/-- Edges that are good, and no two of them one: all are gathered. -/
theorem makeK_good {n : Int} : ∀ (l S : List (Int × Int)), (∀ e ∈ l, 0 ≤ min e.1 e.2 ∧ max e.1 e.2 < n ∧ min e.1 e.2 ≠ max e.1 e.2) → (S ++ l.map nrm).Nodup → makeK n S l = (0, S ++ l.map nrm)
  | [], S, _, _ => by simp [makeK]
  | (a, b) :: l, S, h, hn => by
    obtain ⟨h1, h2, h3⟩ := h (a, b) (by simp)
    have hnot : (min a b, max a b) ∉ S := fun hm => by
      have := (List.nodup_append.1 hn).2.2 _ hm (nrm (a, b)) (by simp)
      exact this rfl
    rw [makeK, if_neg (fun h' => h' ⟨h1, h2⟩), if_neg h3, if_neg hnot, makeK_good l _ (fun e he => h e (by simp [he])) (by simpa [nrm] using hn)]
    simp [nrm]

theorem sorted_right {n : Int} {es l : List (Int × Int)} (hr : RightP n es) (hp : l.Perm es) : sortL l = es := by
  refine ord_eq (sortL_order l) ?_ ((sortL_perm l).trans hp)
  show es.Pairwise fun a b => ¬ LtE b a
  exact hr.inc.imp fun {a b} h k => LtE.irrefl _ (LtE.trans h k)

/-- A right graph's edges, in whatever order, whichever end first, make it again. -/
theorem makeK_back {n : Int} {es l : List (Int × Int)} (hr : RightP n es) (hp : (l.map nrm).Perm es) : (makeK n [] l).1 = 0 ∧ sortL (makeK n [] l).2 = es := by
  have hg : ∀ e ∈ l, 0 ≤ min e.1 e.2 ∧ max e.1 e.2 < n ∧ min e.1 e.2 ≠ max e.1 e.2 := fun e he => by
    have := hr.ok (nrm e) (hp.mem_iff.1 (List.mem_map_of_mem he))
    simp only [nrm] at this
    omega
  have hnd : es.Nodup := hr.inc.imp fun h k => by subst k; exact LtE.irrefl _ h
  rw [makeK_good l [] hg (by simpa using hp.nodup_iff.2 hnd)]
  exact ⟨rfl, sorted_right hr (by simpa using hp)⟩

theorem map_nrm_right {n : Int} {es : List (Int × Int)} (hr : RightP n es) : es.map nrm = es := by
  have : es.map nrm = es.map id := List.map_congr_left fun e he => by
    have := hr.ok e he
    exact Prod.ext (by simp [nrm]; omega) (by simp [nrm]; omega)
  rw [this, List.map_id]
/-- Two are exchanged, and the second of the places is turned. -/
def turnL (l : List PE) (i j : Nat) : List PE := match (swapL l i j)[j]? with
  | some x => (swapL l i j).set j (x.2, x.1)
  | none => swapL l i j
theorem turnL_length (l : List PE) (i j : Nat) : (turnL l i j).length = l.length := by
  unfold turnL
  split <;> simp [swapL_length]
theorem turnL_perm (l : List PE) (i j : Nat) : ((turnL l i j).map nrm).Perm (l.map nrm) := by
  have h := (swapL_perm l i j).map nrm
  unfold turnL
  split
  next x hx =>
    refine List.Perm.trans (List.Perm.of_eq ?_) h
    rw [List.map_set]
    have e1 : nrm (x.2, x.1) = nrm x := by simp only [nrm]; exact Prod.ext (by simp only; omega) (by simp only; omega)
    rw [e1]
    refine List.ext_getElem? fun k => ?_
    rw [List.getElem?_set]
    split
    next hk =>
      subst hk
      have hj : j < (swapL l i j).length := by
        rcases Nat.lt_or_ge j (swapL l i j).length with h' | h'
        · exact h'
        · rw [List.getElem?_eq_none h'] at hx; simp at hx
      rw [List.getElem?_map, hx]
      simp [hj]
    · rfl
  next => exact h
end Go.Proofs.Ytglhdoibglafbaa

/- Walk of graph.Make: the edges put in order, or what is wrong first. -/
namespace Go.Proofs.Ytglhdoibglafbaa
open Go Go.RowKit
set_option maxRecDepth 100000
set_option linter.unusedVariables false
set_option linter.unusedSimpArgs false

def MakeGPost (n : Int) (l : List (Int × Int)) (w : World) (e : Ending) (w' : World) : Prop :=
  ∃ (N' : Int) (A' : Option Addr) (l' c' : Nat) (err : Int), e = .returned (.tuple #[.agg #[.int .i64 N', .slice A' l' c'], .int .i64 err]) ∧ Below w.heap.size w w' ∧ err = (makeK n [] l).1 ∧
    ((err ≠ 0 ∧ N' = 0 ∧ A' = none ∧ l' = 0 ∧ c' = 0) ∨ (err = 0 ∧ N' = n ∧ l' = (makeK n [] l).2.length ∧ l' ≤ c' ∧ ∃ d' : Array (Int × Int), Sort.PermIn 0 l' (makeK n [] l).2.toArray d' ∧ Sort.SortedIn ltP 0 l' d' ∧ w'.ownsRow w.heap.size 28 2 (.slice A' l' c') l' (pcells d'.toList)))

theorem MapE.alloc {w : World} {b : Nat} {S : List (Int × Int)} (h : MapE w b S) (o : Obj) : MapE (w.alloc o) b S := h.far (((Below.refl _ _).alloc (Nat.le_refl _) o).block _ h.lt)

set_option maxHeartbeats 1000000 in
theorem make_any (n : Int) (l : List (Int × Int)) (Al : Option Addr) (cl : Nat) (w : World) (hrl : Reads w Al (pcells l)) (hcl : l.length ≤ cl) (hn0 : 0 ≤ n) (hn1 : n ≤ 4096) (hll : l.length ≤ 60000) :
    Calls Try.prog 27 #[.int .i64 n, .slice Al l.length cl] w (MakeGPost n l w) := by
  have HRL := Lib.hid hrl
  have i1 : ¬ n < 0 := by omega
  have i2 : decide (n < 0) = false := decide_eq_false i1
  have i3 : ¬ (4096 : Int) < n := by omega
  have i4 : decide ((4096 : Int) < n) = false := decide_eq_false i3
  have hmm := @run_makeMap Try.prog
  clear hrl
  go_enter Try.func27, Try.ntmps27
  go_upto_region 6 with fail
  obtain ⟨W0, hW0⟩ : ∃ W0, W0 = ((w.alloc (Obj.cells #[Value.int IntKind.i64 0, Value.slice none 0 0] 25)).alloc (Obj.map #[] 0)).alloc (Obj.cells #[Value.int IntKind.i64 n, Value.slice none 0 0] 25) := ⟨_, rfl⟩
  rw [← hW0]
  have hX8 : Box2 w (w.heap.size + 1 + 1) (.int .i64 n) (.slice none 0 0) 25 W0 := by
    rw [hW0]
    have h := Box2.new (w := w) (wc := (w.alloc (Obj.cells #[Value.int IntKind.i64 0, Value.slice none 0 0] 25)).alloc (Obj.map #[] 0)) (((Below.refl _ _).alloc (Nat.le_refl _) _).alloc (by rw [World.size_alloc]; omega) _) (.int .i64 n) (.slice none 0 0) 25
    rw [World.size_alloc, World.size_alloc] at h
    exact h
  have hX6 : Box2 w w.heap.size (.int .i64 0) (.slice none 0 0) 25 W0 := by
    rw [hW0]
    exact ((Box2.new (Below.refl _ _) _ _ _).old _).old _
  have hME : MapE W0 (w.heap.size + 1) [] := by
    have h := mapE_made (w.alloc (Obj.cells #[Value.int IntKind.i64 0, Value.slice none 0 0] 25))
    rw [World.size_alloc] at h
    refine h.far ?_
    rw [hW0]
    exact ((Below.refl _ _).alloc (Nat.le_refl _) _).block _ (by simp)
  have hs0 : W0.heap.size = w.heap.size + 3 := by rw [hW0]; simp
  clear hW0
  have HX8 := Lib.hid hX8
  have HX6 := Lib.hid hX6
  have HME := Lib.hid hME
  have HS0 := Lib.hid (show w.heap.size + 3 ≤ W0.heap.size by omega)
  clear hX8 hX6 hs0 hME
  go_loopw [23] (fun i wq => ∃ (j : Nat) (S : List (Int × Int)) (A : Option Addr) (c : Nat), i = .int .i64 j ∧ j ≤ l.length ∧ Hid (S.length ≤ j ∧ makeK n [] l = makeK n S (l.drop j)) ∧ S.length ≤ c ∧
    Hid (Box2 w w.heap.size (.int .i64 0) (.slice none 0 0) 25 wq) ∧ Hid (Box2 w (w.heap.size + 1 + 1) (.int .i64 n) (.slice A S.length c) 25 wq) ∧ Hid (MapE wq (w.heap.size + 1) S.reverse) ∧
    Hid (wq.ownsRow (w.heap.size + 3) 28 2 (.slice A S.length c) S.length (pcells S)) ∧ Hid (w.heap.size + 3 ≤ wq.heap.size)) (fun i _ => l.length + 1 - (intOf i).toNat)
  case atStart => exact ⟨0, [], none, 0, rfl, Nat.zero_le _, ⟨by simp, rfl⟩, by simp, HX6, HX8, HME, own_nil0 _ _ _ _, HS0⟩
  case round =>
    clear HX6 HX8 HS0 HME
    obtain ⟨j, S, A, c, rfl, hj, hes, hc, hX6, hX8, hME, how, hsz3⟩ := hrel
    have c0 := hX8.out.c0
    have c1' := hX8.out.c1
    by_cases hlt : j < l.length
    · obtain ⟨⟨x, y⟩, hxy⟩ : ∃ e, l[j]? = some e := ⟨l[j], by simp [hlt]⟩
      obtain ⟨eb, eo, hA1, hebl, cx, cy⟩ := (HRL.out.below hX8.out.below).pair' j _ hxy
      simp only at cx cy
      rw [hA1]
      have HA1 := Lib.hid hA1
      have hst : l.drop j = (x, y) :: l.drop (j + 1) := by
        rw [List.drop_eq_getElem_cons hlt]
        congr 1
        rw [List.getElem?_eq_getElem hlt] at hxy
        simpa using hxy
      have HST := Lib.hid hst
      have k1 : (j : Int) < (l.length : Int) := by omega
      have k2 : (0 : Int) ≤ (j : Int) := by omega
      clear hA1 hxy hst
      obtain ⟨X, hX⟩ : ∃ X, X = min x y := ⟨_, rfl⟩
      obtain ⟨Y, hY⟩ : ∃ Y, Y = max x y := ⟨_, rfl⟩
      have HE := fun W => edge_any x y W
      rw [← hX, ← hY] at HE
      have hXY : X ≤ Y := by omega
      have HT := fun W => there_any n X Y W
      have HXX := Lib.hid hX
      have HYY := Lib.hid hY
      have HM0 := hes.out.2
      rw [HST.out, makeK, ← hX, ← hY] at HM0
      clear hX hY
      by_cases hin : 0 ≤ X ∧ Y < n
      · have HT1 : (decide (0 ≤ min X Y) && decide (max X Y < n)) = true := by simp; omega
        rw [HT1] at HT
        rw [if_neg (fun h => h hin)] at HM0
        have hwx : (Lit.int .i64 ((X, Y) : Int × Int).1).wf = true := wf64 X (by omega) (by omega)
        have hwy : (Lit.int .i64 ((X, Y) : Int × Int).2).wf = true := wf64 Y (by omega) (by omega)
        by_cases hE : X = Y
        · rw [if_pos hE] at HM0
          have HM := Lib.hid HM0
          clear HM0
          subst hE
          have hE1 : (X == X) = true := beq_self_eq_true _
          go_wp2_with (first
            | (go_at_call 65; refine (HE _).mono ?_; rintro e w1 ⟨rfl, hb1⟩
               have hb1' : Below wr.heap.size wr w1 := Below.trans (by (repeat (first | with_reducible exact Below.refl _ _ | with_reducible assumption | with_reducible refine below_drewN0 ?_ _ | with_reducible refine Below.drew ?_ | with_reducible refine Below.alloc ?_ ?_ _ | with_reducible refine Below.setCell ?_ ?_ _ | go_size | exact Below.size (by assumption)))) (hb1.mono (by simp))
               have HB1 := Lib.hid hb1'
               have hG1 := Lib.hid (hX6.out.go hb1')
               have hX1 := Lib.hid (hX8.out.go hb1')
               have hM1 := Lib.hid ((hME.out.far (hb1'.block (w.heap.size + 1) hME.out.lt)).alloc (Obj.cells #[Value.int IntKind.i64 X, Value.int IntKind.i64 X] 28))
               have how1 := Lib.hid (own_below0 how.out hb1')
               obtain ⟨q0, q1, q2, q3, q4⟩ := blk2 hG1.out.blk
               obtain ⟨r0, r1, r2, r3, r4⟩ := blk2 hX1.out.blk
               clear hb1 hb1')
            | (go_at_call 66; refine (HT _).mono ?_; rintro e w2 ⟨rfl, rfl⟩))
          have hblk : (((w1.setCell ⟨w.heap.size, 0, none⟩ (.int .i64 0)).setCell ⟨w.heap.size, 1, none⟩ (.slice none 0 0)).alloc (Obj.cells #[Value.int IntKind.i64 X, Value.int IntKind.i64 X] 28)).heap[w.heap.size]? = some (.cells #[.int .i64 0, .slice none 0 0] 25 (0, 0)) := heap_old (heap_set2 hG1.out.blk (.int .i64 0) (.slice none 0 0))
          have z0 := blkc0 hblk 0 _ rfl
          have z1 := blkc0 hblk 1 _ rfl
          refine bodyPost_ret (v := .tuple #[.agg #[.int .i64 0, .slice none 0 0], .int .i64 5]) (by simp [results, Try.results27, go_sem, z0, z1]) rfl ?_
          have hBZ := (hG1.out.below.setCell (p := ⟨w.heap.size, 0, none⟩) (Nat.le_refl _) (.int .i64 0)).setCell (p := ⟨w.heap.size, 1, none⟩) (Nat.le_refl _) (.slice none 0 0)
          exact ⟨0, none, 0, 0, 5, rfl, hBZ.alloc hBZ.size _, by rw [HM.out], .inl ⟨by omega, rfl, rfl, rfl, rfl⟩⟩
        · rw [if_neg hE] at HM0
          have hE1 : (X == Y) = false := by rw [beq_eq_false_iff_ne]; exact hE
          by_cases hin2 : (X, Y) ∈ S
          · rw [if_pos hin2] at HM0
            have HM := Lib.hid HM0
            have hdec : decide (((X, Y) : Int × Int) ∈ S.reverse) = true := by simp [hin2]
            clear HM0
            go_wp2_with (first
              | (go_at_call 65; refine (HE _).mono ?_; rintro e w1 ⟨rfl, hb1⟩
                 have hb1' : Below wr.heap.size wr w1 := Below.trans (by (repeat (first | with_reducible exact Below.refl _ _ | with_reducible assumption | with_reducible refine below_drewN0 ?_ _ | with_reducible refine Below.drew ?_ | with_reducible refine Below.alloc ?_ ?_ _ | with_reducible refine Below.setCell ?_ ?_ _ | go_size | exact Below.size (by assumption)))) (hb1.mono (by simp))
                 have HB1 := Lib.hid hb1'
                 have hG1 := Lib.hid (hX6.out.go hb1')
                 have hX1 := Lib.hid (hX8.out.go hb1')
                 have hM1 := Lib.hid ((hME.out.far (hb1'.block (w.heap.size + 1) hME.out.lt)).alloc (Obj.cells #[Value.int IntKind.i64 X, Value.int IntKind.i64 Y] 28))
                 have how1 := Lib.hid (own_below0 how.out hb1')
                 obtain ⟨q0, q1, q2, q3, q4⟩ := blk2 hG1.out.blk
                 obtain ⟨r0, r1, r2, r3, r4⟩ := blk2 hX1.out.blk
                 clear hb1 hb1')
              | (go_at_call 66; refine (HT _).mono ?_; rintro e w2 ⟨rfl, rfl⟩)
              | (at_lookup; refine wpList_lookE _ rfl _ _ rfl (w.heap.size + 1) S.reverse rfl hM1.out (X, Y) hwx hwy rfl ?_; rw [hdec]))
            have hblk : (((w1.setCell ⟨w.heap.size, 0, none⟩ (.int .i64 0)).setCell ⟨w.heap.size, 1, none⟩ (.slice none 0 0)).alloc (Obj.cells #[Value.int IntKind.i64 X, Value.int IntKind.i64 Y] 28)).heap[w.heap.size]? = some (.cells #[.int .i64 0, .slice none 0 0] 25 (0, 0)) := heap_old (heap_set2 hG1.out.blk (.int .i64 0) (.slice none 0 0))
            have z0 := blkc0 hblk 0 _ rfl
            have z1 := blkc0 hblk 1 _ rfl
            refine bodyPost_ret (v := .tuple #[.agg #[.int .i64 0, .slice none 0 0], .int .i64 6]) (by simp [results, Try.results27, go_sem, z0, z1]) rfl ?_
            have hBZ := (hG1.out.below.setCell (p := ⟨w.heap.size, 0, none⟩) (Nat.le_refl _) (.int .i64 0)).setCell (p := ⟨w.heap.size, 1, none⟩) (Nat.le_refl _) (.slice none 0 0)
            exact ⟨0, none, 0, 0, 6, rfl, hBZ.alloc hBZ.size _, by rw [HM.out], .inl ⟨by omega, rfl, rfl, rfl, rfl⟩⟩
          · rw [if_neg hin2] at HM0
            have HM := Lib.hid HM0
            have hdec : decide (((X, Y) : Int × Int) ∈ S.reverse) = false := by simp [hin2]
            have hS1 : S.length ≤ j := hes.out.1
            have k5 : decide ((65536 : Int) ≤ (S.length : Int)) = false := decide_eq_false (by omega)
            have k6 : Hid (S.length < maxLen) := Lib.hid (by simp only [maxLen]; omega)
            have HDEC := Lib.hid hdec
            have HIN2 := Lib.hid hin2
            have HS1 := Lib.hid hS1
            clear HM0 hdec hin2 hS1
            go_upto_region 13 with (first
              | (go_at_call 65; refine (HE _).mono ?_; rintro e w1 ⟨rfl, hb1⟩
                 have hb1' : Below wr.heap.size wr w1 := Below.trans (by (repeat (first | with_reducible exact Below.refl _ _ | with_reducible assumption | with_reducible refine below_drewN0 ?_ _ | with_reducible refine Below.drew ?_ | with_reducible refine Below.alloc ?_ ?_ _ | with_reducible refine Below.setCell ?_ ?_ _ | go_size | exact Below.size (by assumption)))) (hb1.mono (by simp))
                 have HB1 := Lib.hid hb1'
                 have hG1 := Lib.hid (hX6.out.go hb1')
                 have hX1 := Lib.hid (hX8.out.go hb1')
                 have hM1 := Lib.hid ((hME.out.far (hb1'.block (w.heap.size + 1) hME.out.lt)).alloc (Obj.cells #[Value.int IntKind.i64 X, Value.int IntKind.i64 Y] 28))
                 have how1 := Lib.hid (own_below0 how.out hb1')
                 obtain ⟨q0, q1, q2, q3, q4⟩ := blk2 hG1.out.blk
                 obtain ⟨r0, r1, r2, r3, r4⟩ := blk2 hX1.out.blk
                 clear hb1 hb1')
              | (go_at_call 66; refine (HT _).mono ?_; rintro e w2 ⟨rfl, rfl⟩)
              | (at_lookup; refine wpList_lookE _ rfl _ _ rfl (w.heap.size + 1) S.reverse rfl hM1.out (X, Y) hwx hwy rfl ?_; rw [HDEC.out]))
            go_upto_region 15 with (at_lookup; refine wpList_lookE _ rfl _ _ rfl (w.heap.size + 1) S.reverse rfl hM1.out (X, Y) hwx hwy rfl ?_; rw [HDEC.out])
            go_upto_region 17 with fail
            go_upto_region 18 with (first
              | (at_mapUpdate; refine wpList_putE _ rfl _ _ _ rfl (w.heap.size + 1) S.reverse rfl hM1.out (by rw [List.length_reverse]; exact k6.out) (X, Y) hwx hwy rfl rfl ?_
                 intro w3 hM3 hg3
                 have HM3 := Lib.hid hM3
                 have hs3 : w1.heap.size + 1 ≤ w3.heap.size := by have := hg3.size; rw [World.size_alloc] at this; exact this
                 have hs1 : w.heap.size + 3 ≤ w1.heap.size := Nat.le_trans hsz3.out HB1.out.size
                 have hb3 : Below (w.heap.size + 1) (w1.alloc (Obj.cells #[Value.int IntKind.i64 X, Value.int IntKind.i64 Y] 28)) w3 := (Below.refl _ _).grown hg3 (by simp; omega) (by simp)
                 have HB3 := Lib.hid hb3
                 have hG3 := Lib.hid ((hg3.block w.heap.size (by simp; omega) (by simp)).trans (heap_old hG1.out.blk))
                 have hX3 := Lib.hid ((hg3.block (w.heap.size + 1 + 1) (by simp; omega) (by simp)).trans (heap_old hX1.out.blk))
                 have how2 := own_below0 how1.out ((Below.refl _ _).alloc (Nat.le_refl _) (Obj.cells #[Value.int IntKind.i64 X, Value.int IntKind.i64 Y] 28))
                 have how3 := Lib.hid (own_far how2 fun g hg => hg3.block g (own_lt0 how2 g hg).2 (by have := (own_lt0 how2 g hg).1; simp; omega))
                 have how4 := own_below0 how3.out ((Below.refl _ _).alloc (Nat.le_refl _) (Obj.cells #[Value.int IntKind.i64 X, Value.int IntKind.i64 Y] 28))
                 obtain ⟨s0, s1, s2, s3, s4⟩ := blk2 ((hg3.block w1.heap.size (by simp) (by simp; omega)).trans (heap_alloc_new _ _))
                 obtain ⟨t0, t1, t2, t3, t4⟩ := blk2 hX3.out
                 clear hb3 how2 hM3))
            go_wp2_with (first
              | (at_builtin; go_loud (
                   refine wpList_app EI_edge rfl (.tmp 62) (.tmp 64) rfl (w.heap.size + 3) (.slice A S.length c) S.length (pcells S) rfl how4 (some ⟨_, 0, none⟩) 1 1 [.int .i64 X, .int .i64 Y] rfl ?_ rfl ?_ ?_ ?_ ?_
                   · exact reads_new w3 [_, _] _
                   · simp [Value.oneCell']
                   · have := HS1.out; omega
                   · simp; omega
                   intro v4 w4 hown4 hg4 hat4
                   have hlt4 := own_lt0 how4
                   have hG4 := Lib.hid ((hg4.block w.heap.size (by simp; omega) (fun h => by have := (hlt4 _ h.symm).1; omega)).trans (heap_old hG3.out))
                   have hX4 := Lib.hid ((hg4.block (w.heap.size + 1 + 1) (by simp; omega) (fun h => by have := (hlt4 _ h.symm).1; omega)).trans (heap_old hX3.out))
                   have hM4 := Lib.hid ((HM3.out.alloc (Obj.cells #[Value.int IntKind.i64 X, Value.int IntKind.i64 Y] 28)).far (hg4.block (w.heap.size + 1) (by simp; omega) (fun h => by have := (hlt4 _ h.symm).1; omega)))
                   have hb4 : Below (w.heap.size + 1) w3 w4 := below_app (w0 := w3.alloc (Obj.cells #[Value.int IntKind.i64 X, Value.int IntKind.i64 Y] 28)) ((Below.refl _ _).alloc (by omega) _) hg4 (by simp; omega) (fun g hg => by have := (hlt4 g hg).1; omega)
                   obtain ⟨u0, u1, u2, u3, u4⟩ := blk2 hX4.out
                   obtain ⟨A4, c4, rfl, hl4, hrd4⟩ := own_reads0 hown4)))
            have hBf : Below w.heap.size w w4 := (((hX8.out.below.trans (HB1.out.mono hX8.out.below.size)).trans ((Below.refl w1.heap.size w1).alloc (Nat.le_refl _) _ |>.mono (by omega))).trans (HB3.out.mono (by omega))).trans (hb4.mono (by omega))
            have hS4 : w.heap.size + 3 ≤ w4.heap.size := by have := hb4.size; omega
            have hne : ∀ g, g ≠ w.heap.size + 1 + 1 → (w4.setCell ⟨w.heap.size + 1 + 1, 1, none⟩ (Value.slice A4 (S.length + 1) c4)).heap[g]? = w4.heap[g]? := fun g hg => Below.heap_setCell _ _ _ _ hg
            have hBs : Below w.heap.size w (w4.setCell ⟨w.heap.size + 1 + 1, 1, none⟩ (Value.slice A4 (S.length + 1) c4)) := hBf.setCell (p := ⟨w.heap.size + 1 + 1, 1, none⟩) (by simp only; omega) _
            have hb2 : (w4.setCell ⟨w.heap.size + 1 + 1, 1, none⟩ (Value.slice A4 (S.length + 1) c4)).heap[w.heap.size + 1 + 1]? = some (.cells #[.int .i64 n, .slice A4 (S.length + 1) c4] 25 (0, 0)) := by
              have h1 := hX4.out
              simp [World.setCell, Array.getElem?_modify, h1]
            have hl9 : (S ++ [(X, Y)]).length = S.length + 1 := by simp
            refine ⟨⟨j + 1, S ++ [(X, Y)], A4, c4, by go_num, by omega, ⟨by rw [hl9]; have := HS1.out; omega, HM.out⟩, by rw [hl9]; exact hl4, Lib.hid ⟨(hne _ (by omega)).trans hG4.out, hBs⟩, Lib.hid ⟨by rw [hl9]; exact hb2, hBs⟩, Lib.hid ?_, Lib.hid ?_, Lib.hid (by rw [World.size_setCell]; exact hS4)⟩, by simp [intOf]; omega⟩
            · have h1 := hM4.out.far (w' := w4.setCell ⟨w.heap.size + 1 + 1, 1, none⟩ (Value.slice A4 (S.length + 1) c4)) (hne _ (by omega))
              simpa using h1
            · have h1 := own_far (w' := w4.setCell ⟨w.heap.size + 1 + 1, 1, none⟩ (Value.slice A4 (S.length + 1) c4)) hown4 fun g hg => hne g (by have := (own_lt0 hown4 g hg).1; omega)
              rw [hl9]
              exact own_cast h1 (Nat.le_refl _) rfl (by simp [pcells])
      · have HT1 : (decide (0 ≤ min X Y) && decide (max X Y < n)) = false := by simp; omega
        rw [HT1] at HT
        rw [if_pos hin] at HM0
        have HM := Lib.hid HM0
        clear HM0
        go_wp2_with (first
          | (go_at_call 65; refine (HE _).mono ?_; rintro e w1 ⟨rfl, hb1⟩
             have hb1' : Below wr.heap.size wr w1 := Below.trans (by (repeat (first | with_reducible exact Below.refl _ _ | with_reducible assumption | with_reducible refine below_drewN0 ?_ _ | with_reducible refine Below.drew ?_ | with_reducible refine Below.alloc ?_ ?_ _ | with_reducible refine Below.setCell ?_ ?_ _ | go_size | exact Below.size (by assumption)))) (hb1.mono (by simp))
             have HB1 := Lib.hid hb1'
             have hG1 := Lib.hid (hX6.out.go hb1')
             have hX1 := Lib.hid (hX8.out.go hb1')
             have hM1 := Lib.hid ((hME.out.far (hb1'.block (w.heap.size + 1) hME.out.lt)).alloc (Obj.cells #[Value.int IntKind.i64 X, Value.int IntKind.i64 Y] 28))
             have how1 := Lib.hid (own_below0 how.out hb1')
             obtain ⟨q0, q1, q2, q3, q4⟩ := blk2 hG1.out.blk
             obtain ⟨r0, r1, r2, r3, r4⟩ := blk2 hX1.out.blk
             clear hb1 hb1')
          | (go_at_call 66; refine (HT _).mono ?_; rintro e w2 ⟨rfl, rfl⟩))
        have hblk : (((w1.setCell ⟨w.heap.size, 0, none⟩ (.int .i64 0)).setCell ⟨w.heap.size, 1, none⟩ (.slice none 0 0)).alloc (Obj.cells #[Value.int IntKind.i64 X, Value.int IntKind.i64 Y] 28)).heap[w.heap.size]? = some (.cells #[.int .i64 0, .slice none 0 0] 25 (0, 0)) := heap_old (heap_set2 hG1.out.blk (.int .i64 0) (.slice none 0 0))
        have z0 := blkc0 hblk 0 _ rfl
        have z1 := blkc0 hblk 1 _ rfl
        refine bodyPost_ret (v := .tuple #[.agg #[.int .i64 0, .slice none 0 0], .int .i64 4]) (by simp [results, Try.results27, go_sem, z0, z1]) rfl ?_
        have hBZ := (hG1.out.below.setCell (p := ⟨w.heap.size, 0, none⟩) (Nat.le_refl _) (.int .i64 0)).setCell (p := ⟨w.heap.size, 1, none⟩) (Nat.le_refl _) (.slice none 0 0)
        exact ⟨0, none, 0, 0, 4, rfl, hBZ.alloc hBZ.size _, by rw [HM.out], .inl ⟨by omega, rfl, rfl, rfl, rfl⟩⟩
    · have hjl : j = l.length := by omega
      have hd0 : l.drop j = [] := by rw [hjl]; simp
      have HM := Lib.hid (show makeK n [] l = (0, S) by rw [hes.out.2, hd0]; rfl)
      have k1 : ¬ (j : Int) < (l.length : Int) := by omega
      have HSO := sort_own S A c (w.heap.size + 3) wr how.out (by have := hes.out.1; omega) hsz3.out
      have HB9 : Hid (Below w.heap.size w wr) := hX8.out.below
      clear hjl hd0
      go_wp2_with (go_at_call 67; with_reducible refine HSO.mono ?_
                   rintro e w5 ⟨rfl, hb5, d', hp, hs, ho5⟩
                   have hX65 := (hb5.block w.heap.size (by omega)).trans hX6.out.blk
                   have hX85 := (hb5.block (w.heap.size + 1 + 1) (by omega)).trans hX8.out.blk
                   obtain ⟨q0, q1, q2, q3, q4⟩ := blk2 hX65
                   obtain ⟨r0, r1, r2, r3, r4⟩ := blk2 hX85
                   have HX65 := Lib.hid hX65
                   clear hX65 hX85)
      have hblk := heap_set2 HX65.out (.int .i64 n) (.slice A S.length c)
      have z0 := blkc0 hblk 0 _ rfl
      have z1 := blkc0 hblk 1 _ rfl
      refine bodyPost_ret (v := .tuple #[.agg #[.int .i64 n, .slice A S.length c], .int .i64 0]) (by simp [results, Try.results27, go_sem, z0, z1]) rfl ?_
      have hb6 : Below w.heap.size w w5 := HB9.out.trans (hb5.mono (by omega))
      refine ⟨n, A, S.length, c, 0, rfl, (hb6.setCell (p := ⟨_, 0, none⟩) (Nat.le_refl _) _).setCell (p := ⟨_, 1, none⟩) (Nat.le_refl _) _, by rw [HM.out], .inr ⟨rfl, rfl, by rw [HM.out], hc, d', by rw [HM.out]; exact hp, hs, ?_⟩⟩
      have h5 := own_set (a := ⟨w.heap.size, 1, none⟩) (own_set (a := ⟨w.heap.size, 0, none⟩) ho5 (by simp only; omega) (.int .i64 n)) (by simp only; omega) (.slice A S.length c)
      exact own_cast h5 (by omega) rfl rfl
end Go.Proofs.Ytglhdoibglafbaa
