/- Walks of help's Same, Plain at numbers, edges. -/
import Derived.Test.YtgddfmfiiodgbaaU03
import Derived.Deep.DeepAppendRoom
import Derived.Test.YtgddfmfiiodgbaaU04
import Derived.Deep.OwnRows
namespace Go.Proofs.Ytgddfmfiiodgbaa
open Go Go.RowKit
set_option maxRecDepth 100000
set_option linter.unusedVariables false
set_option linter.unusedSimpArgs false

theorem eqI (a b : Int) (w : World) : Calls Try.prog 101 #[.int .i64 a, .int .i64 b] w fun e w' => e = .returned (.bool (decide (a = b))) ∧ Below w.heap.size w w' := by
  by_cases h : a = b
  · subst h
    go_enter Try.func101, Try.ntmps101
    go_wp2
    go_ret
    exact ⟨by simp, by (repeat (first | with_reducible exact Below.refl _ _ | with_reducible assumption | with_reducible refine below_drewN0 ?_ _ | with_reducible refine Below.drew ?_ | with_reducible refine Below.alloc ?_ ?_ _ | with_reducible refine Below.setCell ?_ ?_ _ | go_size | exact Below.size (by assumption)))⟩
  · have h' : (a == b) = false := by simpa using h
    go_enter Try.func101, Try.ntmps101
    go_wp2
    go_ret
    exact ⟨by simp [h], by (repeat (first | with_reducible exact Below.refl _ _ | with_reducible assumption | with_reducible refine below_drewN0 ?_ _ | with_reducible refine Below.drew ?_ | with_reducible refine Below.alloc ?_ ?_ _ | with_reducible refine Below.setCell ?_ ?_ _ | go_size | exact Below.size (by assumption)))⟩

theorem eqE (a b c d : Int) (w : World) : Calls Try.prog 168 #[.agg #[.int .i64 a, .int .i64 b], .agg #[.int .i64 c, .int .i64 d]] w fun e w' => e = .returned (.bool (decide ((a, b) = (c, d)))) ∧ Below w.heap.size w w' := by
  by_cases h : a = c
  · subst h
    by_cases h2 : b = d
    · subst h2
      go_enter Try.func168, Try.ntmps168
      go_wp2
      go_ret
      exact ⟨by simp, by (repeat (first | with_reducible exact Below.refl _ _ | with_reducible assumption | with_reducible refine below_drewN0 ?_ _ | with_reducible refine Below.drew ?_ | with_reducible refine Below.alloc ?_ ?_ _ | with_reducible refine Below.setCell ?_ ?_ _ | go_size | exact Below.size (by assumption)))⟩
    · go_enter Try.func168, Try.ntmps168
      go_wp2
      go_ret
      exact ⟨by simp [h2], by (repeat (first | with_reducible exact Below.refl _ _ | with_reducible assumption | with_reducible refine below_drewN0 ?_ _ | with_reducible refine Below.drew ?_ | with_reducible refine Below.alloc ?_ ?_ _ | with_reducible refine Below.setCell ?_ ?_ _ | go_size | exact Below.size (by assumption)))⟩
  · go_enter Try.func168, Try.ntmps168
    go_wp2
    go_ret
    exact ⟨by simp [h], by (repeat (first | with_reducible exact Below.refl _ _ | with_reducible assumption | with_reducible refine below_drewN0 ?_ _ | with_reducible refine Below.drew ?_ | with_reducible refine Below.alloc ?_ ?_ _ | with_reducible refine Below.setCell ?_ ?_ _ | go_size | exact Below.size (by assumption)))⟩
theorem eqEP (x y : Int × Int) (w : World) : Calls Try.prog 168 #[.agg #[.int .i64 x.1, .int .i64 x.2], .agg #[.int .i64 y.1, .int .i64 y.2]] w fun e w' => e = .returned (.bool (decide (x = y))) ∧ Below w.heap.size w w' := eqE x.1 x.2 y.1 y.2 w


set_option maxHeartbeats 2000000 in
theorem sameI (l1 l2 : List (Int)) (A1 A2 : Option Addr) (c1 c2 : Nat) (w : World) (h1 : Reads w A1 (icells l1)) (h2 : Reads w A2 (icells l2)) (hc1 : l1.length ≤ c1) (hc2 : l2.length ≤ c2) (hm1 : l1.length ≤ 4611686018427387903) (hm2 : l2.length ≤ 4611686018427387903) :
    Calls Try.prog 100 #[.slice A1 l1.length c1, .slice A2 l2.length c2, .func (.func 101) #[] #[]] w fun e w' => e = .returned (.bool (decide (l1 = l2))) ∧ Below w.heap.size w w' := by
  by_cases hl : l1.length = l2.length
  · have HD : ∀ k, (∀ i : Nat, i < k → l1[i]? = l2[i]?) → l1.length ≤ k → l1 = l2 := fun k h hk => by
      apply List.ext_getElem?
      intro i
      by_cases hi : i < l1.length
      · exact h i (by omega)
      · rw [List.getElem?_eq_none (by omega), List.getElem?_eq_none (by omega)]
    have hl2 : ((l1.length : Int) != (l2.length : Int)) = false := by simp [hl]
    have HL := Lib.hid hl
    clear hl
    go_enter Try.func100, Try.ntmps100
    go_wp2_with fail
    go_loopw [7] (fun i wr => ∃ k : Nat, k ≤ l1.length ∧ i = .int .i64 k ∧ Hid (∀ i : Nat, i < k → l1[i]? = l2[i]?) ∧ Below w.heap.size w wr) (fun i _ => l1.length - (intOf i).toNat)
    case atStart => exact ⟨0, Nat.zero_le _, rfl, fun i h => by omega, Below.refl _ _⟩
    case round =>
      obtain ⟨k, hk, rfl, hall, hb⟩ := hrel
      have hbs := hb.size
      by_cases hlt : k < l1.length
      · have hk2 : (k : Int) < (l2.length : Int) := by have := HL.out; omega
        have hk2' : k < l2.length := by have := HL.out; omega
        (obtain ⟨x, hx⟩ : ∃ x, l1[k]? = some x := ⟨l1[k], by simp [hlt]⟩
         obtain ⟨y, hy⟩ : ∃ y, l2[k]? = some y := ⟨l2[k], by simp⟩
         obtain ⟨b1, o1, rfl, hb1, e1⟩ := (h1.below hb).int k x hx
         obtain ⟨b2, o2, rfl, hb2, e2⟩ := (h2.below hb).int k y hy)
        have HX := Lib.hid hx
        have HY := Lib.hid hy
        clear hx hy h1 h2
        by_cases hxy : x = y
        · subst hxy
          have HD9 := Lib.hid HD
          clear HD
          go_wp2_with fail
          (refine wp_quiet_tail 9 (by kernel_rfl) (by kernel_rfl) ?_
           simp only [List.take_succ_cons, List.take_zero, List.drop_succ_cons, List.drop_zero]
           repeat (go_big_quiet_step (fail))
           refine wpQuiet_nil ?_
           intro _ hw'
           obtain ⟨nq, hw''⟩ := hw'
           subst hw'')
          go_wp2_with (go_at_call 101; refine (eqI _ _ _).mono ?_; simp only [decide_true]; rintro e w1 ⟨rfl, hb1⟩)
          go_roundw
          case rel => exact ⟨k + 1, by omega, by go_num, fun i hi => (by
            by_cases h9 : i = k
            · subst h9; rw [HX.out, HY.out]
            · exact hall.out i (by omega)), hb.trans (Below.trans (by (repeat (first | with_reducible exact Below.refl _ _ | with_reducible assumption | with_reducible refine below_drewN0 ?_ _ | with_reducible refine Below.drew ?_ | with_reducible refine Below.alloc ?_ ?_ _ | with_reducible refine Below.setCell ?_ ?_ _ | go_size | exact Below.size (by assumption)))) (hb1.mono (by simp; try omega)))⟩
          case measure => simp [intOf]; omega
        · have hne : decide (l1 = l2) = false := decide_eq_false (fun h => by
            have := HX.out
            rw [h, HY.out] at this
            exact hxy (by simpa using this.symm))
          have HNE := Lib.hid hne
          have hd := decide_eq_false hxy
          have HD9 := Lib.hid HD
          clear HD hxy hne
          go_wp2_with fail
          (refine wp_quiet_tail 9 (by kernel_rfl) (by kernel_rfl) ?_
           simp only [List.take_succ_cons, List.take_zero, List.drop_succ_cons, List.drop_zero]
           repeat (go_big_quiet_step (fail))
           refine wpQuiet_nil ?_
           intro _ hw'
           obtain ⟨nq, hw''⟩ := hw'
           subst hw'')
          go_wp2_with (go_at_call 101; refine (eqI _ _ _).mono ?_; simp only [hd]; rintro e w1 ⟨rfl, hb1⟩)
          go_ret
          exact ⟨by rw [HNE.out]; rfl, hb.trans (Below.trans (by (repeat (first | with_reducible exact Below.refl _ _ | with_reducible assumption | with_reducible refine below_drewN0 ?_ _ | with_reducible refine Below.drew ?_ | with_reducible refine Below.alloc ?_ ?_ _ | with_reducible refine Below.setCell ?_ ?_ _ | go_size | exact Below.size (by assumption)))) (hb1.mono (by simp; try omega)))⟩
      · have hne : decide (l1 = l2) = true := decide_eq_true (HD k hall.out (by omega))
        have HNE := Lib.hid hne
        clear HD hne
        go_wp2_with fail
        go_ret
        exact ⟨by rw [HNE.out]; rfl, hb⟩
  · have hl2 : ((l1.length : Int) != (l2.length : Int)) = true := by simp; omega
    have hne : decide (l1 = l2) = false := decide_eq_false (fun h => hl (by rw [h]))
    rw [hne]
    clear hne hl
    go_enter Try.func100, Try.ntmps100
    go_wp2_with fail
    go_ret
    exact ⟨rfl, Below.refl _ _⟩

theorem sameI_plain (l1 l2 : List (Int)) (A1 A2 : Option Addr) (c1 c2 : Nat) (w : World) (h1 : Reads w A1 (icells l1)) (h2 : Reads w A2 (icells l2)) (hc1 : l1.length ≤ c1) (hc2 : l2.length ≤ c2) (hm1 : l1.length ≤ 4611686018427387903) (hm2 : l2.length ≤ 4611686018427387903) :
    Calls Try.prog 42 #[.slice A1 l1.length c1, .slice A2 l2.length c2] w fun e w' => e = .returned (.bool (decide (l1 = l2))) ∧ Below w.heap.size w w' := by
  have HS := sameI l1 l2 A1 A2 c1 c2 w h1 h2 hc1 hc2 hm1 hm2
  generalize decide (l1 = l2) = d at *
  clear h1 h2
  go_enter Try.func42, Try.ntmps42
  go_wp2_with (go_at_call 100; refine HS.mono ?_; rintro e w1 ⟨rfl, hb1⟩)
  go_ret
  exact ⟨rfl, hb1⟩
set_option maxHeartbeats 2000000 in
theorem sameE (l1 l2 : List (Int × Int)) (A1 A2 : Option Addr) (c1 c2 : Nat) (w : World) (h1 : Reads w A1 (pcells l1)) (h2 : Reads w A2 (pcells l2)) (hc1 : l1.length ≤ c1) (hc2 : l2.length ≤ c2) (hm1 : l1.length ≤ 4611686018427387903) (hm2 : l2.length ≤ 4611686018427387903) :
    Calls Try.prog 167 #[.slice A1 l1.length c1, .slice A2 l2.length c2, .func (.func 168) #[] #[]] w fun e w' => e = .returned (.bool (decide (l1 = l2))) ∧ Below w.heap.size w w' := by
  by_cases hl : l1.length = l2.length
  · have HD : ∀ k, (∀ i : Nat, i < k → l1[i]? = l2[i]?) → l1.length ≤ k → l1 = l2 := fun k h hk => by
      apply List.ext_getElem?
      intro i
      by_cases hi : i < l1.length
      · exact h i (by omega)
      · rw [List.getElem?_eq_none (by omega), List.getElem?_eq_none (by omega)]
    have hl2 : ((l1.length : Int) != (l2.length : Int)) = false := by simp [hl]
    have HL := Lib.hid hl
    clear hl
    go_enter Try.func167, Try.ntmps167
    go_wp2_with fail
    go_loopw [7] (fun i wr => ∃ k : Nat, k ≤ l1.length ∧ i = .int .i64 k ∧ Hid (∀ i : Nat, i < k → l1[i]? = l2[i]?) ∧ Below w.heap.size w wr) (fun i _ => l1.length - (intOf i).toNat)
    case atStart => exact ⟨0, Nat.zero_le _, rfl, fun i h => by omega, Below.refl _ _⟩
    case round =>
      obtain ⟨k, hk, rfl, hall, hb⟩ := hrel
      have hbs := hb.size
      by_cases hlt : k < l1.length
      · have hk2 : (k : Int) < (l2.length : Int) := by have := HL.out; omega
        have hk2' : k < l2.length := by have := HL.out; omega
        (obtain ⟨x, hx⟩ : ∃ x, l1[k]? = some x := ⟨l1[k], by simp [hlt]⟩
         obtain ⟨y, hy⟩ : ∃ y, l2[k]? = some y := ⟨l2[k], by simp⟩
         obtain ⟨b1, o1, rfl, hb1, e1, e1'⟩ := (h1.below hb).pair' k x hx
         obtain ⟨b2, o2, rfl, hb2, e2, e2'⟩ := (h2.below hb).pair' k y hy
         have hdum : True := trivial)
        have HX := Lib.hid hx
        have HY := Lib.hid hy
        clear hx hy h1 h2
        by_cases hxy : x = y
        · subst hxy
          have HD9 := Lib.hid HD
          clear HD
          go_wp2_with fail
          (refine wp_quiet_tail 9 (by kernel_rfl) (by kernel_rfl) ?_
           simp only [List.take_succ_cons, List.take_zero, List.drop_succ_cons, List.drop_zero]
           repeat (go_big_quiet_step (fail))
           refine wpQuiet_nil ?_
           intro _ hw'
           obtain ⟨nq, hw''⟩ := hw'
           subst hw'')
          go_wp2_with (go_at_call 168; refine (eqEP _ _ _).mono ?_; simp only [decide_true]; rintro e w1 ⟨rfl, hb1⟩)
          go_roundw
          case rel => exact ⟨k + 1, by omega, by go_num, fun i hi => (by
            by_cases h9 : i = k
            · subst h9; rw [HX.out, HY.out]
            · exact hall.out i (by omega)), hb.trans (Below.trans (by (repeat (first | with_reducible exact Below.refl _ _ | with_reducible assumption | with_reducible refine below_drewN0 ?_ _ | with_reducible refine Below.drew ?_ | with_reducible refine Below.alloc ?_ ?_ _ | with_reducible refine Below.setCell ?_ ?_ _ | go_size | exact Below.size (by assumption)))) (hb1.mono (by simp; try omega)))⟩
          case measure => simp [intOf]; omega
        · have hne : decide (l1 = l2) = false := decide_eq_false (fun h => by
            have := HX.out
            rw [h, HY.out] at this
            exact hxy (by simpa using this.symm))
          have HNE := Lib.hid hne
          have hd := decide_eq_false hxy
          have HD9 := Lib.hid HD
          clear HD hxy hne
          go_wp2_with fail
          (refine wp_quiet_tail 9 (by kernel_rfl) (by kernel_rfl) ?_
           simp only [List.take_succ_cons, List.take_zero, List.drop_succ_cons, List.drop_zero]
           repeat (go_big_quiet_step (fail))
           refine wpQuiet_nil ?_
           intro _ hw'
           obtain ⟨nq, hw''⟩ := hw'
           subst hw'')
          go_wp2_with (go_at_call 168; refine (eqEP _ _ _).mono ?_; simp only [hd]; rintro e w1 ⟨rfl, hb1⟩)
          go_ret
          exact ⟨by rw [HNE.out]; rfl, hb.trans (Below.trans (by (repeat (first | with_reducible exact Below.refl _ _ | with_reducible assumption | with_reducible refine below_drewN0 ?_ _ | with_reducible refine Below.drew ?_ | with_reducible refine Below.alloc ?_ ?_ _ | with_reducible refine Below.setCell ?_ ?_ _ | go_size | exact Below.size (by assumption)))) (hb1.mono (by simp; try omega)))⟩
      · have hne : decide (l1 = l2) = true := decide_eq_true (HD k hall.out (by omega))
        have HNE := Lib.hid hne
        clear HD hne
        go_wp2_with fail
        go_ret
        exact ⟨by rw [HNE.out]; rfl, hb⟩
  · have hl2 : ((l1.length : Int) != (l2.length : Int)) = true := by simp; omega
    have hne : decide (l1 = l2) = false := decide_eq_false (fun h => hl (by rw [h]))
    rw [hne]
    clear hne hl
    go_enter Try.func167, Try.ntmps167
    go_wp2_with fail
    go_ret
    exact ⟨rfl, Below.refl _ _⟩

theorem sameE_plain (l1 l2 : List (Int × Int)) (A1 A2 : Option Addr) (c1 c2 : Nat) (w : World) (h1 : Reads w A1 (pcells l1)) (h2 : Reads w A2 (pcells l2)) (hc1 : l1.length ≤ c1) (hc2 : l2.length ≤ c2) (hm1 : l1.length ≤ 4611686018427387903) (hm2 : l2.length ≤ 4611686018427387903) :
    Calls Try.prog 132 #[.slice A1 l1.length c1, .slice A2 l2.length c2] w fun e w' => e = .returned (.bool (decide (l1 = l2))) ∧ Below w.heap.size w w' := by
  have HS := sameE l1 l2 A1 A2 c1 c2 w h1 h2 hc1 hc2 hm1 hm2
  generalize decide (l1 = l2) = d at *
  clear h1 h2
  go_enter Try.func132, Try.ntmps132
  go_wp2_with (go_at_call 167; refine HS.mono ?_; rintro e w1 ⟨rfl, hb1⟩)
  go_ret
  exact ⟨rfl, hb1⟩

end Go.Proofs.Ytgddfmfiiodgbaa

/- append onto a row known whole that has room (no program in sight). -/
namespace Go.Proofs.Ytgddfmfiiodgbaa
open Go Go.RowKit
set_option maxRecDepth 100000
set_option linter.unusedVariables false
set_option linter.unusedSimpArgs false

section
variable {P : Program} {t e : TypeId} {z : Value} {size bytes : Nat}

theorem run_room (E : EI P t e z size bytes) (w : World) (ty : TypeId) (g : Nat) (cur : List Value) (n cap : Nat) (hg : w.heap[g]? = some (.cells cur.toArray e (0, 0))) (hcap : cur.length = cap * size)
    (A : Option Addr) (m c : Nat) (news : List Value) (hr : Reads w A news) (hl : news.length = m * size) (h1 : ∀ u ∈ news, u.oneCell' = true) (hroom : n + m ≤ cap) :
    ∃ w', (Builtin.append_ #[t, t] ty #[.slice (some ⟨g, 0, none⟩) n cap, .slice A m c]).run P w = .ok (.slice (some ⟨g, 0, none⟩) (n + m) cap) w' ∧
      w'.heap[g]? = some (.cells (cur.take (n * size) ++ news ++ cur.drop ((n + m) * size)).toArray e (0, 0)) ∧ w.grownBy w' (some g) := by
  obtain ⟨i, hi, hz, hsize, hbytes⟩ := info_parts E.hinfo
  cases A with
  | none =>
    have h0 : news = [] := by
      rcases hr with h | ⟨b, o, h, _⟩
      · exact h
      · cases h
    subst h0
    have hm : m = 0 := by
      have := E.hsz
      rcases Nat.mul_eq_zero.1 (show m * size = 0 by simpa using hl.symm) with h | h <;> omega
    subst hm
    refine ⟨w, ?_, by simpa using hg, World.grownBy.refl w _⟩
    simp [Builtin.append_, run_underlying E.ht, sizeOf, typeInfo, hi, Builtin.lenOf, Builtin.firstCells, show n ≤ cap from hroom, storeCells]
  | some ad =>
    have hc : ∀ j u, news[j]? = some u → w.cell? (ad.add j) = some u := by
      intro j u hu
      rcases hr with h | ⟨b, o, h, _, hc⟩
      · subst h; simp at hu
      · injection h with h
        subst h
        have : (⟨b, o, none⟩ : Addr).add j = ⟨b, o + j, none⟩ := by unfold Addr.add; split <;> simp_all
        rw [this]
        exact hc j u hu
    subst hsize
    have hfit : n * i.size + news.length ≤ cur.toArray.size := by
      rw [hl, List.size_toArray, hcap, ← Nat.add_mul]; exact Nat.mul_le_mul_right _ hroom
    have hrun := run_append_room (P := P) w t ty e i E.ht hi g n cap cur.toArray hg ad m c news hl hc h1 hroom hfit
    refine ⟨_, hrun, ?_, ⟨rfl, rfl, rfl, by simp, fun k _ hk => setRow_other w g k _ (fun e => hk (by simp [e]))⟩⟩
    rw [setRow_heap w g cur.toArray _ e _ hg]
    simp only [hl, Nat.add_mul]

theorem wpList_room (E : EI P t e z size bytes) {w : World} {ops : Array Oper} {rest : List Oper} {o : Oper} {a : Act} {Q : Exit → Act → World → Prop} (hgd : o.guard = none) (s x : Operand)
    (ho : o.op = .call { callee := .builtin .append, args := #[s, x], argTypes := #[t, t] })
    (g : Nat) (cur : List Value) (n cap : Nat) (hs : a.eval s = .slice (some ⟨g, 0, none⟩) n cap) (hg : w.heap[g]? = some (.cells cur.toArray e (0, 0))) (hcap : cur.length = cap * size)
    (A : Option Addr) (m c : Nat) (news : List Value) (hx : a.eval x = .slice A m c) (hr : Reads w A news) (hl : news.length = m * size) (h1 : ∀ u ∈ news, u.oneCell' = true) (hroom : n + m ≤ cap)
    (h : ∀ w', w'.heap[g]? = some (.cells (cur.take (n * size) ++ news ++ cur.drop ((n + m) * size)).toArray e (0, 0)) → w.grownBy w' (some g) → wpList P ops Q rest (a.put o.dst (.slice (some ⟨g, 0, none⟩) (n + m) cap)) w') : wpList P ops Q (o :: rest) a w :=
  wpList_plain hgd fun _ hK => by
    obtain ⟨w', hrun, h2, h3⟩ := run_room E w o.type g cur n cap hg hcap A m c news hr hl h1 hroom
    unfold Oper.wp execOp
    simp only [ho, resolve, invoke, builtin, Sem.run_bind, Sem.run_pure, Result.andThen_ok, List.map_toArray, List.map_cons, List.map_nil, hs, hx, hrun]
    exact hK _ _ (h w' h2 h3)
end

theorem madeI (n : Nat) : madeCells #[.int .i64 0] n = (icells (List.replicate n 0)).toArray := made_zero n
theorem pcells_replicate (n : Nat) (a b : Int) : ∀ j, (pcells (List.replicate n (a, b)))[j]? = if j < n * 2 then some (.int .i64 (if j % 2 = 0 then a else b)) else none := by
  induction n with
  | zero => intro j; simp [pcells]
  | succ n ih =>
    intro j
    rw [List.replicate_succ]
    match j with
    | 0 => simp [pcells]
    | 1 => simp [pcells]; omega
    | j + 2 =>
      have := ih j
      simp only [pcells, List.flatMap_cons, List.cons_append, List.nil_append, List.getElem?_cons_succ] at this ⊢
      rw [this]
      have e1 : (j + 2) % 2 = j % 2 := by omega
      rw [e1]
      by_cases h : j < n * 2
      · have h2 : j + 2 < (n + 1) * 2 := by omega
        simp only [h, h2, if_true]
      · have h2 : ¬ j + 2 < (n + 1) * 2 := by omega
        simp only [h, h2, if_false]
theorem madeP (n : Nat) : madeCells #[.int .i64 0, .int .i64 0] (n * 2) = (pcells (List.replicate n (0, 0))).toArray := by
  apply Array.ext
  · simp [madeCells, pcells_length]; omega
  · intro i h1 h2
    have h3 : i < n * 2 := by simpa [madeCells] using h1
    have := pcells_replicate n 0 0 i
    rw [if_pos h3] at this
    simp only [ite_self] at this
    have h4 := (List.getElem?_eq_some_iff.1 this).2
    simp only [List.getElem_toArray, h4]
    rcases Nat.mod_two_eq_zero_or_one i with h | h <;> simp [madeCells, h]
theorem pcells_nil_replicate0 : pcells [] = [] := rfl
theorem pcells_drop0 (l : List (Int × Int)) (k : Nat) : (pcells l).drop (k * 2) = pcells (l.drop k) := (pcells_drop l k).symm
theorem icells_drop (l : List Int) (k : Nat) : (icells l).drop k = icells (l.drop k) := by simp [icells, List.map_drop]
theorem icells_set (l : List Int) (k : Nat) (x : Int) : (icells l).set k (.int .i64 x) = icells (l.set k x) := by simp [icells, List.map_set]
end Go.Proofs.Ytgddfmfiiodgbaa

/- Walks of help's Own, Kept at edges and at numbers. -/
namespace Go.Proofs.Ytgddfmfiiodgbaa
open Go Go.RowKit
set_option maxRecDepth 100000
set_option linter.unusedVariables false
set_option linter.unusedSimpArgs false

/-- The copy with room behind it: a block of the call's own, whole. -/
def OwnP {α : Type} (T : TypeId) (cells : List α → List Value) (l : List α) (f : α) (w : World) (e : Ending) (w' : World) : Prop :=
  ∃ g, e = .returned (.slice (some ⟨g, 0, none⟩) l.length (l.length + 3)) ∧ w.heap.size ≤ g ∧ w'.heap[g]? = some (.cells (cells (l ++ List.replicate 3 f)).toArray T (0, 0)) ∧ Below w.heap.size w w'

theorem heap_lt0 {w : World} {g : Nat} {o : Obj} (h : w.heap[g]? = some o) : g < w.heap.size := by
  rcases Nat.lt_or_ge g w.heap.size with hl | hl
  · exact hl
  · rw [Array.getElem?_eq_none hl] at h; cases h
theorem blkc0 {w : World} {g : Nat} {cs : Array Value} {T : TypeId} (h : w.heap[g]? = some (.cells cs T (0, 0))) (i : Nat) (v : Value) (hv : cs[i]? = some v) : w.cell? ⟨g, i, none⟩ = some v := (cell_of_row w g i cs T (0, 0) h).trans hv
theorem blkf0 {w : World} {g : Nat} {cs : Array Value} {T : TypeId} (h : w.heap[g]? = some (.cells cs T (0, 0))) (i : Nat) : w.frozen? ⟨g, i, none⟩ = false := by simp [World.frozen?, h]
theorem blk_put {w : World} {g : Nat} {cs : List Value} {T : TypeId} (h : w.heap[g]? = some (.cells cs.toArray T (0, 0))) (i : Nat) (v : Value) : (w.setCell ⟨g, i, none⟩ v).heap[g]? = some (.cells (cs.set i v).toArray T (0, 0)) := by
  simp [World.setCell, Array.getElem?_modify, h]

theorem fill_step {α : Type} (l : List α) (f z : α) (j : Nat) (hj : j < 3) : (l ++ (List.replicate j f ++ List.replicate (3 - j) z)).set (l.length + j) f = l ++ (List.replicate (j + 1) f ++ List.replicate (3 - (j + 1)) z) := by
  rw [List.set_append_right _ _ (by omega), show l.length + j - l.length = j by omega]
  congr 1
  match j, hj with
  | 0, _ => rfl
  | 1, _ => rfl
  | 2, _ => rfl
theorem fill_get {α : Type} (l : List α) (f z : α) (j : Nat) (hj : j < 3) : (l ++ (List.replicate j f ++ List.replicate (3 - j) z))[l.length + j]? = some z := by
  rw [List.getElem?_append_right (by omega), show l.length + j - l.length = j by omega]
  match j, hj with
  | 0, _ => rfl
  | 1, _ => rfl
  | 2, _ => rfl


set_option maxHeartbeats 2000000 in
theorem ownE (l : List (Int × Int)) (f1 f2 : Int) (A : Option Addr) (c : Nat) (w : World) (hr : Reads w A (pcells l)) (hc : l.length ≤ c) (hm : l.length ≤ 1000000) :
    Calls Try.prog 85 #[.slice A l.length c, .agg #[.int .i64 f1, .int .i64 f2]] w (OwnP 49 pcells l (f1, f2) w) := by
  obtain ⟨i0, hi0, hz0, hs0, hb0⟩ := info_parts (EI_edge).hinfo
  have hmk : ∀ w0 : World, (Instr.makeSlice 23 (.int .i64 0) (.int .i64 ((l.length : Int) + 3))).run Try.prog w0 = .ok (.slice (some ⟨w0.heap.size, 0, none⟩) 0 (l.length + 3)) (w0.alloc (.cells (pcells (List.replicate (l.length + 3) (0, 0))).toArray 49)) := fun w0 => by
    have h := run_make (P := Try.prog) w0 23 49 i0 (.agg #[.int .i64 0, .int .i64 0]) (EI_edge).ht hi0 hz0 .i64 .i64 0 ((l.length : Int) + 3) (by omega) (by omega) (by rw [hb0]; omega) (by omega)
    rw [h, hs0, show ((l.length : Int) + 3).toNat = l.length + 3 by omega, ← madeP]
    try rfl
  have HMK := Lib.hid hmk
  clear hmk
  go_enter Try.func85, Try.ntmps85
  have hmk := HMK.out
  go_upto_region 2 with fail
  clear hmk HMK hi0 hz0 hs0 hb0
  generalize hW : (w.alloc (Obj.cells #[Value.int .i64 f1, Value.int .i64 f2] 49)).alloc (Obj.cells (pcells (List.replicate (l.length + 3) (0, 0))).toArray 49) = W
  have hbW : Below w.heap.size w W := by rw [← hW]; (repeat (first | with_reducible exact Below.refl _ _ | with_reducible assumption | with_reducible refine below_drewN0 ?_ _ | with_reducible refine Below.drew ?_ | with_reducible refine Below.alloc ?_ ?_ _ | with_reducible refine Below.setCell ?_ ?_ _ | go_size | exact Below.size (by assumption)))
  have hF : W.heap[w.heap.size]? = some (.cells #[Value.int .i64 f1, Value.int .i64 f2] 49 (0, 0)) := by rw [← hW]; exact heap_old (heap_alloc_new w _)
  have hG : W.heap[w.heap.size + 1]? = some (.cells (pcells (List.replicate (l.length + 3) (0, 0))).toArray 49 (0, 0)) := by
    rw [← hW]
    have h := heap_alloc_new (w.alloc (Obj.cells #[Value.int .i64 f1, Value.int .i64 f2] 49)) (Obj.cells (pcells (List.replicate (l.length + 3) (0, 0))).toArray 49)
    rwa [World.size_alloc] at h
  have hrW := hr.below hbW
  have HF := Lib.hid hF
  have HG := Lib.hid hG
  clear hW hF hG hr
  have hll : (pcells l).length = l.length * 2 := by simp [pcells_length]; try omega
  have HLL := Lib.hid hll
  clear hll
  have i1 : (l.length : Int) + 3 ≤ ((l.length + 3 : Nat) : Int) := by omega
  have i2 : (0 : Int) ≤ (l.length : Int) + 3 := by omega
  have i3 : ((l.length : Int) + 3).toNat = l.length + 3 := by omega
  go_upto_region 4 with (first
    | (at_builtin; go_loud (
       refine wpList_room EI_edge rfl (.tmp 12) (.tmp 13) rfl (w.heap.size + 1) (pcells (List.replicate (l.length + 3) (0, 0))) 0 (l.length + 3) rfl HG.out ?_ A l.length c (pcells l) rfl hrW HLL.out (pcells_one l) ?_ ?_
       · simp [pcells_length]; try omega
       · omega
       intro w2 hG2 hg2
       have hb2 : Below w.heap.size w w2 := hbW.grown hg2 hbW.size (fun k hk => by cases hk; omega)
       have hF2 := Lib.hid ((hg2.block w.heap.size (heap_lt0 HF.out) (by simp)).trans HF.out)
       have HG2 : Hid (w2.heap[w.heap.size + 1]? = some (.cells (pcells (l ++ (List.replicate 0 (f1, f2) ++ List.replicate (3 - 0) (0, 0)))).toArray 49 (0, 0))) := by
         unfold Hid
         rw [hG2]
         simp only [Nat.zero_mul, List.take_zero, List.nil_append, Nat.zero_add, List.replicate_zero]
         rw [pcells_drop0, List.drop_replicate, show l.length + 3 - l.length = 3 by omega, pcells_append]
       clear hG2)))
  go_wp2_with fail
  clear hrW hbW
  go_loopw [7] (fun i wr => ∃ j : Nat, j ≤ 3 ∧ i = .int .i64 ((l.length + j : Nat) : Int) ∧ Hid (wr.heap[w.heap.size]? = some (.cells #[Value.int .i64 f1, Value.int .i64 f2] 49 (0, 0))) ∧ Hid (wr.heap[w.heap.size + 1]? = some (.cells (pcells (l ++ (List.replicate j (f1, f2) ++ List.replicate (3 - j) (0, 0)))).toArray 49 (0, 0))) ∧ Below w.heap.size w wr) (fun i _ => l.length + 3 - (intOf i).toNat)
  case atStart => exact ⟨0, by omega, rfl, hF2, HG2, hb2⟩
  case round =>
    clear hF2 HG2 hb2 hg2
    obtain ⟨j, hj, rfl, hF, hG, hb⟩ := hrel
    by_cases hlt : j < 3
    · have hfc := fun i v => blkc0 hF.out i v
      have hlF := heap_lt0 hF.out
      have hlG := heap_lt0 hG.out
      (have hx0 := hfc 0 _ rfl
       have hx1 := hfc 1 _ rfl
       have hpg := pcells_get _ _ _ (fill_get l (f1, f2) ((0 : Int), (0 : Int)) j hlt)
       rw [Nat.mul_comm] at hpg
       have hy0 := blkc0 hG.out _ _ (List.getElem?_toArray.trans hpg.1)
       have hy1 := blkc0 hG.out _ _ (List.getElem?_toArray.trans hpg.2)
       have hz0 := blkf0 hG.out ((l.length + j) * 2)
       have hz1 := blkf0 hG.out ((l.length + j) * 2 + 1)
       have j1 : ((l.length + j : Nat) : Int) < ((l.length + 3 : Nat) : Int) := by omega
       have j2 : l.length + j < l.length + 3 := by omega
       clear hpg hfc
       go_wp2_with fail)
      go_roundw
      case rel =>
        refine ⟨j + 1, by omega, by go_num, ?_, ?_, by (repeat (first | with_reducible exact Below.refl _ _ | with_reducible assumption | with_reducible refine below_drewN0 ?_ _ | with_reducible refine Below.drew ?_ | with_reducible refine Below.alloc ?_ ?_ _ | with_reducible refine Below.setCell ?_ ?_ _ | go_size | exact Below.size (by assumption)))⟩
        · exact heap_far (heap_far hF.out (by dsimp only; omega) _) (by dsimp only; omega) _
        · (have h9 := blk_put (blk_put hG.out ((l.length + j) * 2) (.int .i64 f1)) ((l.length + j) * 2 + 1) (.int .i64 f2)
           have h8 := fill_get l (f1, f2) ((0 : Int), (0 : Int)) j hlt
           rw [pcells_set0 _ _ _ _ f1 h8, pcells_set1 _ _ f1 0 f2 (by rw [List.getElem?_set_self (List.getElem?_eq_some_iff.1 h8).1]), List.set_set, fill_step _ _ _ _ hlt] at h9
           exact h9)
      case measure => simp [intOf]; omega
    · obtain rfl : j = 3 := by omega
      go_wp2_with fail
      go_ret
      refine ⟨_, rfl, by omega, ?_, hb⟩
      have h9 := hG.out
      simpa using h9

theorem kept_get {α : Type} (l : List α) (f : α) (j : Nat) (hj : j < 3) : (l ++ List.replicate 3 f)[l.length + j]? = some f := by
  rw [List.getElem?_append_right (by omega), show l.length + j - l.length = j by omega]
  match j, hj with
  | 0, _ => rfl
  | 1, _ => rfl
  | 2, _ => rfl
theorem reads_blk {w : World} {g : Nat} {cs : List Value} {T : TypeId} (h : w.heap[g]? = some (.cells cs.toArray T (0, 0))) : Reads w (some ⟨g, 0, none⟩) cs :=
  .inr ⟨g, 0, rfl, heap_lt0 h, fun j v hj => by rw [Nat.zero_add]; exact blkc0 h j v (List.getElem?_toArray.trans hj)⟩
theorem Reads.front {w : World} {A : Option Addr} {cs ds : List Value} (h : Reads w A (cs ++ ds)) : Reads w A cs := by
  rcases h with h | ⟨b, o, rfl, hb, hc⟩
  · exact .inl (by simp at h; exact h.1)
  · exact .inr ⟨b, o, rfl, hb, fun j v hj => hc j v (by rw [List.getElem?_append_left (List.getElem?_eq_some_iff.1 hj).1]; exact hj)⟩

set_option maxHeartbeats 2000000 in
theorem keptE (l : List (Int × Int)) (f1 f2 : Int) (g : Nat) (A : Option Addr) (c : Nat) (w : World) (hr : Reads w A (pcells l)) (hc : l.length ≤ c) (hm : l.length ≤ 1000000) (hG : w.heap[g]? = some (.cells (pcells (l ++ List.replicate 3 (f1, f2))).toArray 49 (0, 0))) :
    Calls Try.prog 90 #[.slice (some ⟨g, 0, none⟩) l.length (l.length + 3), .slice A l.length c, .agg #[.int .i64 f1, .int .i64 f2]] w fun e w' => e = .returned (.bool true) ∧ Below w.heap.size w w' := by
  have hrg : Reads w (some ⟨g, 0, none⟩) (pcells l) := by
    have := reads_blk hG
    rw [pcells_append] at this
    exact this.front
  have hlg := heap_lt0 hG
  have HP := fun W hR1 hR2 => sameE_plain l l (some ⟨g, 0, none⟩) A (l.length + 3) c W hR1 hR2 (by omega) hc (by omega) (by omega)
  simp only [decide_true] at HP
  have HG := Lib.hid hG
  clear hG
  have i0 : decide (((l.length + 3 : Nat) : Int) < (l.length : Int) + 3) = false := decide_eq_false (by omega)
  have i1 : (l.length : Int) + 3 ≤ ((l.length + 3 : Nat) : Int) := by omega
  have i2 : (0 : Int) ≤ (l.length : Int) + 3 := by omega
  have i3 : ((l.length : Int) + 3).toNat = l.length + 3 := by omega
  go_enter Try.func90, Try.ntmps90
  go_wp2_with (first
    | (go_at_call 132; refine (HP _ (hrg.below ?_) (hr.below ?_)).mono ?_; (repeat (first | with_reducible exact Below.refl _ _ | with_reducible assumption | with_reducible refine below_drewN0 ?_ _ | with_reducible refine Below.drew ?_ | with_reducible refine Below.alloc ?_ ?_ _ | with_reducible refine Below.setCell ?_ ?_ _ | go_size | exact Below.size (by assumption))); (repeat (first | with_reducible exact Below.refl _ _ | with_reducible assumption | with_reducible refine below_drewN0 ?_ _ | with_reducible refine Below.drew ?_ | with_reducible refine Below.alloc ?_ ?_ _ | with_reducible refine Below.setCell ?_ ?_ _ | go_size | exact Below.size (by assumption))); rintro e w1 ⟨rfl, hb1⟩
       have hF := Lib.hid ((hb1.block w.heap.size (by simp)).trans (heap_alloc_new w (Obj.cells #[Value.int .i64 f1, Value.int .i64 f2] 49)))
       have hG1 := Lib.hid ((hb1.block g (by simp; omega)).trans (heap_old HG.out))
       have hbw : Below w.heap.size w w1 := Below.trans (by (repeat (first | with_reducible exact Below.refl _ _ | with_reducible assumption | with_reducible refine below_drewN0 ?_ _ | with_reducible refine Below.drew ?_ | with_reducible refine Below.alloc ?_ ?_ _ | with_reducible refine Below.setCell ?_ ?_ _ | go_size | exact Below.size (by assumption)))) (hb1.mono (by simp))
       clear hb1))
  go_loopw [8] (fun i wr => ∃ j : Nat, j ≤ 3 ∧ i = .int .i64 ((l.length + j : Nat) : Int) ∧ Hid (Below w1.heap.size w1 wr)) (fun i _ => l.length + 3 - (intOf i).toNat)
  case atStart => exact ⟨0, by omega, rfl, Below.refl _ _⟩
  case round =>
    obtain ⟨j, hj, rfl, hb⟩ := hrel
    have hF' := (hb.out.block w.heap.size (heap_lt0 hF.out)).trans hF.out
    have hG' := (hb.out.block g (heap_lt0 hG1.out)).trans hG1.out
    by_cases hlt : j < 3
    · obtain ⟨x0, x1, _, _, _⟩ := blk2 hF'
      have hpg := pcells_get _ _ _ (kept_get l (f1, f2) j hlt)
      rw [Nat.mul_comm] at hpg
      have hy0 := blkc0 hG' _ _ (List.getElem?_toArray.trans hpg.1)
      have hy1 := blkc0 hG' _ _ (List.getElem?_toArray.trans hpg.2)
      have j1 : ((l.length + j : Nat) : Int) < ((l.length + 3 : Nat) : Int) := by omega
      have j2 : l.length + j < l.length + 3 := by omega
      clear hpg hF' hG'
      go_wp2_with fail
      go_quiet (fail)
      go_wp2_with fail
      go_roundw
      case rel => exact ⟨j + 1, by omega, by go_num, hb.out.trans (by (repeat (first | with_reducible exact Below.refl _ _ | with_reducible assumption | with_reducible refine below_drewN0 ?_ _ | with_reducible refine Below.drew ?_ | with_reducible refine Below.alloc ?_ ?_ _ | with_reducible refine Below.setCell ?_ ?_ _ | go_size | exact Below.size (by assumption))))⟩
      case measure => simp [intOf]; omega
    · obtain rfl : j = 3 := by omega
      clear hF' hG'
      go_wp2_with fail
      go_ret
      exact ⟨rfl, hbw.trans (hb.out.mono hbw.size)⟩

end Go.Proofs.Ytgddfmfiiodgbaa
