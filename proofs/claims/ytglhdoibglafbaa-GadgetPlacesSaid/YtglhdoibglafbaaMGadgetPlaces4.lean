/- Walks of help's Same, Plain at numbers, edges. -/
import Derived.Test.YtglhdoibglafbaaMGadgetPlaces3
import Derived.Deep.DeepAppendRoom
import Derived.Deep.OwnRows
namespace Go.Proofs.Ytglhdoibglafbaa
open Go Go.RowKit
set_option maxRecDepth 100000
set_option linter.unusedVariables false

theorem eqI (a b : Int) (w : World) : Calls Try.prog 73 #[.int .i64 a, .int .i64 b] w fun e w' => e = .returned (.bool (decide (a = b))) ∧ Below w.heap.size w w' := by
  by_cases h : a = b
  · subst h
    go_enter Try.func73, Try.ntmps73
    go_wp2
    go_ret
    exact ⟨by simp, by (repeat (first | with_reducible exact Below.refl _ _ | with_reducible assumption | with_reducible refine below_drewN0 ?_ _ | with_reducible refine Below.drew ?_ | with_reducible refine Below.alloc ?_ ?_ _ | with_reducible refine Below.setCell ?_ ?_ _ | go_size | exact Below.size (by assumption)))⟩
  · have h' : (a == b) = false := by simpa using h
    go_enter Try.func73, Try.ntmps73
    go_wp2
    go_ret
    exact ⟨by simp [h], by (repeat (first | with_reducible exact Below.refl _ _ | with_reducible assumption | with_reducible refine below_drewN0 ?_ _ | with_reducible refine Below.drew ?_ | with_reducible refine Below.alloc ?_ ?_ _ | with_reducible refine Below.setCell ?_ ?_ _ | go_size | exact Below.size (by assumption)))⟩

theorem eqE (a b c d : Int) (w : World) : Calls Try.prog 80 #[.agg #[.int .i64 a, .int .i64 b], .agg #[.int .i64 c, .int .i64 d]] w fun e w' => e = .returned (.bool (decide ((a, b) = (c, d)))) ∧ Below w.heap.size w w' := by
  by_cases h : a = c
  · subst h
    by_cases h2 : b = d
    · subst h2
      go_enter Try.func80, Try.ntmps80
      go_wp2
      go_ret
      exact ⟨by simp, by (repeat (first | with_reducible exact Below.refl _ _ | with_reducible assumption | with_reducible refine below_drewN0 ?_ _ | with_reducible refine Below.drew ?_ | with_reducible refine Below.alloc ?_ ?_ _ | with_reducible refine Below.setCell ?_ ?_ _ | go_size | exact Below.size (by assumption)))⟩
    · go_enter Try.func80, Try.ntmps80
      go_wp2
      go_ret
      exact ⟨by simp [h2], by (repeat (first | with_reducible exact Below.refl _ _ | with_reducible assumption | with_reducible refine below_drewN0 ?_ _ | with_reducible refine Below.drew ?_ | with_reducible refine Below.alloc ?_ ?_ _ | with_reducible refine Below.setCell ?_ ?_ _ | go_size | exact Below.size (by assumption)))⟩
  · go_enter Try.func80, Try.ntmps80
    go_wp2
    go_ret
    exact ⟨by simp [h], by (repeat (first | with_reducible exact Below.refl _ _ | with_reducible assumption | with_reducible refine below_drewN0 ?_ _ | with_reducible refine Below.drew ?_ | with_reducible refine Below.alloc ?_ ?_ _ | with_reducible refine Below.setCell ?_ ?_ _ | go_size | exact Below.size (by assumption)))⟩
theorem eqEP (x y : Int × Int) (w : World) : Calls Try.prog 80 #[.agg #[.int .i64 x.1, .int .i64 x.2], .agg #[.int .i64 y.1, .int .i64 y.2]] w fun e w' => e = .returned (.bool (decide (x = y))) ∧ Below w.heap.size w w' := eqE x.1 x.2 y.1 y.2 w


set_option maxHeartbeats 2000000 in
theorem sameI (l1 l2 : List (Int)) (A1 A2 : Option Addr) (c1 c2 : Nat) (w : World) (h1 : Reads w A1 (icells l1)) (h2 : Reads w A2 (icells l2)) (hc1 : l1.length ≤ c1) (hc2 : l2.length ≤ c2) (hm1 : l1.length ≤ 4611686018427387903) (hm2 : l2.length ≤ 4611686018427387903) :
    Calls Try.prog 72 #[.slice A1 l1.length c1, .slice A2 l2.length c2, .func (.func 73) #[] #[]] w fun e w' => e = .returned (.bool (decide (l1 = l2))) ∧ Below w.heap.size w w' := by
  by_cases hl : l1.length = l2.length
  · have HD : ∀ k, (∀ i : Nat, i < k → l1[i]? = l2[i]?) → l1.length ≤ k → l1 = l2 := fun k h hk => by
      apply List.ext_getElem?
      intro i
      by_cases hi : i < l1.length
      · exact h i (by omega)
      · rw [List.getElem?_eq_none (by omega), List.getElem?_eq_none (by omega)]
    have hl2 : ((l1.length : Int) != (l2.length : Int)) = false := by simp [hl]
    have HL := Lib.hid hl
    clear hl
    go_enter Try.func72, Try.ntmps72
    go_wp2_with fail
    go_loopw [7] (fun i wr => ∃ k : Nat, k ≤ l1.length ∧ i = .int .i64 k ∧ Hid (∀ i : Nat, i < k → l1[i]? = l2[i]?) ∧ Below w.heap.size w wr) (fun i _ => l1.length - (intOf i).toNat)
    case atStart => exact ⟨0, Nat.zero_le _, rfl, fun i h => by omega, Below.refl _ _⟩
    case round =>
      obtain ⟨k, hk, rfl, hall, hb⟩ := hrel
      have hbs := hb.size
      by_cases hlt : k < l1.length
      · have hk2 : (k : Int) < (l2.length : Int) := by have := HL.out; omega
        have hk2' : k < l2.length := by have := HL.out; omega
        (obtain ⟨x, hx⟩ : ∃ x, l1[k]? = some x := ⟨l1[k], by simp [hlt]⟩
         obtain ⟨y, hy⟩ : ∃ y, l2[k]? = some y := ⟨l2[k], by simp⟩
         obtain ⟨b1, o1, rfl, hb1, e1⟩ := (h1.below hb).int k x hx
         obtain ⟨b2, o2, rfl, hb2, e2⟩ := (h2.below hb).int k y hy)
        have HX := Lib.hid hx
        have HY := Lib.hid hy
        clear hx hy h1 h2
        by_cases hxy : x = y
        · subst hxy
          have HD9 := Lib.hid HD
          clear HD
          go_wp2_with fail
          (refine wp_quiet_tail 9 (by kernel_rfl) (by kernel_rfl) ?_
           simp only [List.take_succ_cons, List.take_zero, List.drop_succ_cons, List.drop_zero]
           repeat (go_big_quiet_step (fail))
           refine wpQuiet_nil ?_
           intro _ hw'
           obtain ⟨nq, hw''⟩ := hw'
           subst hw'')
          go_wp2_with (go_at_call 73; refine (eqI _ _ _).mono ?_; simp only [decide_true]; rintro e w1 ⟨rfl, hb1⟩)
          go_roundw
          case rel => exact ⟨k + 1, by omega, by go_num, fun i hi => (by
            by_cases h9 : i = k
            · subst h9; rw [HX.out, HY.out]
            · exact hall.out i (by omega)), hb.trans (Below.trans (by (repeat (first | with_reducible exact Below.refl _ _ | with_reducible assumption | with_reducible refine below_drewN0 ?_ _ | with_reducible refine Below.drew ?_ | with_reducible refine Below.alloc ?_ ?_ _ | with_reducible refine Below.setCell ?_ ?_ _ | go_size | exact Below.size (by assumption)))) (hb1.mono (by simp; try omega)))⟩
          case measure => simp [intOf]; omega
        · have hne : decide (l1 = l2) = false := decide_eq_false (fun h => by
            have := HX.out
            rw [h, HY.out] at this
            exact hxy (by simpa using this.symm))
          have HNE := Lib.hid hne
          have hd := decide_eq_false hxy
          have HD9 := Lib.hid HD
          clear HD hxy hne
          go_wp2_with fail
          (refine wp_quiet_tail 9 (by kernel_rfl) (by kernel_rfl) ?_
           simp only [List.take_succ_cons, List.take_zero, List.drop_succ_cons, List.drop_zero]
           repeat (go_big_quiet_step (fail))
           refine wpQuiet_nil ?_
           intro _ hw'
           obtain ⟨nq, hw''⟩ := hw'
           subst hw'')
          go_wp2_with (go_at_call 73; refine (eqI _ _ _).mono ?_; simp only [hd]; rintro e w1 ⟨rfl, hb1⟩)
          go_ret
          exact ⟨by rw [HNE.out]; rfl, hb.trans (Below.trans (by (repeat (first | with_reducible exact Below.refl _ _ | with_reducible assumption | with_reducible refine below_drewN0 ?_ _ | with_reducible refine Below.drew ?_ | with_reducible refine Below.alloc ?_ ?_ _ | with_reducible refine Below.setCell ?_ ?_ _ | go_size | exact Below.size (by assumption)))) (hb1.mono (by simp; try omega)))⟩
      · have hne : decide (l1 = l2) = true := decide_eq_true (HD k hall.out (by omega))
        have HNE := Lib.hid hne
        clear HD hne
        go_wp2_with fail
        go_ret
        exact ⟨by rw [HNE.out]; rfl, hb⟩
  · have hl2 : ((l1.length : Int) != (l2.length : Int)) = true := by simp; omega
    have hne : decide (l1 = l2) = false := decide_eq_false (fun h => hl (by rw [h]))
    rw [hne]
    clear hne hl
    go_enter Try.func72, Try.ntmps72
    go_wp2_with fail
    go_ret
    exact ⟨rfl, Below.refl _ _⟩

theorem sameI_plain (l1 l2 : List (Int)) (A1 A2 : Option Addr) (c1 c2 : Nat) (w : World) (h1 : Reads w A1 (icells l1)) (h2 : Reads w A2 (icells l2)) (hc1 : l1.length ≤ c1) (hc2 : l2.length ≤ c2) (hm1 : l1.length ≤ 4611686018427387903) (hm2 : l2.length ≤ 4611686018427387903) :
    Calls Try.prog 37 #[.slice A1 l1.length c1, .slice A2 l2.length c2] w fun e w' => e = .returned (.bool (decide (l1 = l2))) ∧ Below w.heap.size w w' := by
  have HS := sameI l1 l2 A1 A2 c1 c2 w h1 h2 hc1 hc2 hm1 hm2
  generalize decide (l1 = l2) = d at *
  clear h1 h2
  go_enter Try.func37, Try.ntmps37
  go_wp2_with (go_at_call 72; refine HS.mono ?_; rintro e w1 ⟨rfl, hb1⟩)
  go_ret
  exact ⟨rfl, hb1⟩
set_option maxHeartbeats 2000000 in
theorem sameE (l1 l2 : List (Int × Int)) (A1 A2 : Option Addr) (c1 c2 : Nat) (w : World) (h1 : Reads w A1 (pcells l1)) (h2 : Reads w A2 (pcells l2)) (hc1 : l1.length ≤ c1) (hc2 : l2.length ≤ c2) (hm1 : l1.length ≤ 4611686018427387903) (hm2 : l2.length ≤ 4611686018427387903) :
    Calls Try.prog 79 #[.slice A1 l1.length c1, .slice A2 l2.length c2, .func (.func 80) #[] #[]] w fun e w' => e = .returned (.bool (decide (l1 = l2))) ∧ Below w.heap.size w w' := by
  by_cases hl : l1.length = l2.length
  · have HD : ∀ k, (∀ i : Nat, i < k → l1[i]? = l2[i]?) → l1.length ≤ k → l1 = l2 := fun k h hk => by
      apply List.ext_getElem?
      intro i
      by_cases hi : i < l1.length
      · exact h i (by omega)
      · rw [List.getElem?_eq_none (by omega), List.getElem?_eq_none (by omega)]
    have hl2 : ((l1.length : Int) != (l2.length : Int)) = false := by simp [hl]
    have HL := Lib.hid hl
    clear hl
    go_enter Try.func79, Try.ntmps79
    go_wp2_with fail
    go_loopw [7] (fun i wr => ∃ k : Nat, k ≤ l1.length ∧ i = .int .i64 k ∧ Hid (∀ i : Nat, i < k → l1[i]? = l2[i]?) ∧ Below w.heap.size w wr) (fun i _ => l1.length - (intOf i).toNat)
    case atStart => exact ⟨0, Nat.zero_le _, rfl, fun i h => by omega, Below.refl _ _⟩
    case round =>
      obtain ⟨k, hk, rfl, hall, hb⟩ := hrel
      have hbs := hb.size
      by_cases hlt : k < l1.length
      · have hk2 : (k : Int) < (l2.length : Int) := by have := HL.out; omega
        have hk2' : k < l2.length := by have := HL.out; omega
        (obtain ⟨x, hx⟩ : ∃ x, l1[k]? = some x := ⟨l1[k], by simp [hlt]⟩
         obtain ⟨y, hy⟩ : ∃ y, l2[k]? = some y := ⟨l2[k], by simp⟩
         obtain ⟨b1, o1, rfl, hb1, e1, e1'⟩ := (h1.below hb).pair' k x hx
         obtain ⟨b2, o2, rfl, hb2, e2, e2'⟩ := (h2.below hb).pair' k y hy
         have hdum : True := trivial)
        have HX := Lib.hid hx
        have HY := Lib.hid hy
        clear hx hy h1 h2
        by_cases hxy : x = y
        · subst hxy
          have HD9 := Lib.hid HD
          clear HD
          go_wp2_with fail
          (refine wp_quiet_tail 9 (by kernel_rfl) (by kernel_rfl) ?_
           simp only [List.take_succ_cons, List.take_zero, List.drop_succ_cons, List.drop_zero]
           repeat (go_big_quiet_step (fail))
           refine wpQuiet_nil ?_
           intro _ hw'
           obtain ⟨nq, hw''⟩ := hw'
           subst hw'')
          go_wp2_with (go_at_call 80; refine (eqEP _ _ _).mono ?_; simp only [decide_true]; rintro e w1 ⟨rfl, hb1⟩)
          go_roundw
          case rel => exact ⟨k + 1, by omega, by go_num, fun i hi => (by
            by_cases h9 : i = k
            · subst h9; rw [HX.out, HY.out]
            · exact hall.out i (by omega)), hb.trans (Below.trans (by (repeat (first | with_reducible exact Below.refl _ _ | with_reducible assumption | with_reducible refine below_drewN0 ?_ _ | with_reducible refine Below.drew ?_ | with_reducible refine Below.alloc ?_ ?_ _ | with_reducible refine Below.setCell ?_ ?_ _ | go_size | exact Below.size (by assumption)))) (hb1.mono (by simp; try omega)))⟩
          case measure => simp [intOf]; omega
        · have hne : decide (l1 = l2) = false := decide_eq_false (fun h => by
            have := HX.out
            rw [h, HY.out] at this
            exact hxy (by simpa using this.symm))
          have HNE := Lib.hid hne
          have hd := decide_eq_false hxy
          have HD9 := Lib.hid HD
          clear HD hxy hne
          go_wp2_with fail
          (refine wp_quiet_tail 9 (by kernel_rfl) (by kernel_rfl) ?_
           simp only [List.take_succ_cons, List.take_zero, List.drop_succ_cons, List.drop_zero]
           repeat (go_big_quiet_step (fail))
           refine wpQuiet_nil ?_
           intro _ hw'
           obtain ⟨nq, hw''⟩ := hw'
           subst hw'')
          go_wp2_with (go_at_call 80; refine (eqEP _ _ _).mono ?_; simp only [hd]; rintro e w1 ⟨rfl, hb1⟩)
          go_ret
          exact ⟨by rw [HNE.out]; rfl, hb.trans (Below.trans (by (repeat (first | with_reducible exact Below.refl _ _ | with_reducible assumption | with_reducible refine below_drewN0 ?_ _ | with_reducible refine Below.drew ?_ | with_reducible refine Below.alloc ?_ ?_ _ | with_reducible refine Below.setCell ?_ ?_ _ | go_size | exact Below.size (by assumption)))) (hb1.mono (by simp; try omega)))⟩
      · have hne : decide (l1 = l2) = true := decide_eq_true (HD k hall.out (by omega))
        have HNE := Lib.hid hne
        clear HD hne
        go_wp2_with fail
        go_ret
        exact ⟨by rw [HNE.out]; rfl, hb⟩
  · have hl2 : ((l1.length : Int) != (l2.length : Int)) = true := by simp; omega
    have hne : decide (l1 = l2) = false := decide_eq_false (fun h => hl (by rw [h]))
    rw [hne]
    clear hne hl
    go_enter Try.func79, Try.ntmps79
    go_wp2_with fail
    go_ret
    exact ⟨rfl, Below.refl _ _⟩

theorem sameE_plain (l1 l2 : List (Int × Int)) (A1 A2 : Option Addr) (c1 c2 : Nat) (w : World) (h1 : Reads w A1 (pcells l1)) (h2 : Reads w A2 (pcells l2)) (hc1 : l1.length ≤ c1) (hc2 : l2.length ≤ c2) (hm1 : l1.length ≤ 4611686018427387903) (hm2 : l2.length ≤ 4611686018427387903) :
    Calls Try.prog 51 #[.slice A1 l1.length c1, .slice A2 l2.length c2] w fun e w' => e = .returned (.bool (decide (l1 = l2))) ∧ Below w.heap.size w w' := by
  have HS := sameE l1 l2 A1 A2 c1 c2 w h1 h2 hc1 hc2 hm1 hm2
  generalize decide (l1 = l2) = d at *
  clear h1 h2
  go_enter Try.func51, Try.ntmps51
  go_wp2_with (go_at_call 79; refine HS.mono ?_; rintro e w1 ⟨rfl, hb1⟩)
  go_ret
  exact ⟨rfl, hb1⟩

end Go.Proofs.Ytglhdoibglafbaa

/- append onto a row known whole that has room (no program in sight). -/
namespace Go.Proofs.Ytglhdoibglafbaa
open Go Go.RowKit
set_option maxRecDepth 100000
set_option linter.unusedVariables false

section
variable {P : Program} {t e : TypeId} {z : Value} {size bytes : Nat}

theorem run_room (E : EI P t e z size bytes) (w : World) (ty : TypeId) (g : Nat) (cur : List Value) (n cap : Nat) (hg : w.heap[g]? = some (.cells cur.toArray e (0, 0))) (hcap : cur.length = cap * size)
    (A : Option Addr) (m c : Nat) (news : List Value) (hr : Reads w A news) (hl : news.length = m * size) (h1 : ∀ u ∈ news, u.oneCell' = true) (hroom : n + m ≤ cap) :
    ∃ w', (Builtin.append_ #[t, t] ty #[.slice (some ⟨g, 0, none⟩) n cap, .slice A m c]).run P w = .ok (.slice (some ⟨g, 0, none⟩) (n + m) cap) w' ∧
      w'.heap[g]? = some (.cells (cur.take (n * size) ++ news ++ cur.drop ((n + m) * size)).toArray e (0, 0)) ∧ w.grownBy w' (some g) := by
  obtain ⟨i, hi, hz, hsize, hbytes⟩ := info_parts E.hinfo
  cases A with
  | none =>
    have h0 : news = [] := by
      rcases hr with h | ⟨b, o, h, _⟩
      · exact h
      · cases h
    subst h0
    have hm : m = 0 := by
      have := E.hsz
      rcases Nat.mul_eq_zero.1 (show m * size = 0 by simpa using hl.symm) with h | h <;> omega
    subst hm
    refine ⟨w, ?_, by simpa using hg, World.grownBy.refl w _⟩
    simp [Builtin.append_, run_underlying E.ht, sizeOf, typeInfo, hi, Builtin.lenOf, Builtin.firstCells, show n ≤ cap from hroom, storeCells]
  | some ad =>
    have hc : ∀ j u, news[j]? = some u → w.cell? (ad.add j) = some u := by
      intro j u hu
      rcases hr with h | ⟨b, o, h, _, hc⟩
      · subst h; simp at hu
      · injection h with h
        subst h
        have : (⟨b, o, none⟩ : Addr).add j = ⟨b, o + j, none⟩ := by unfold Addr.add; split <;> simp_all
        rw [this]
        exact hc j u hu
    subst hsize
    have hfit : n * i.size + news.length ≤ cur.toArray.size := by
      rw [hl, List.size_toArray, hcap, ← Nat.add_mul]; exact Nat.mul_le_mul_right _ hroom
    have hrun := run_append_room (P := P) w t ty e i E.ht hi g n cap cur.toArray hg ad m c news hl hc h1 hroom hfit
    refine ⟨_, hrun, ?_, ⟨rfl, rfl, rfl, by simp, fun k _ hk => setRow_other w g k _ (fun e => hk (by simp [e]))⟩⟩
    rw [setRow_heap w g cur.toArray _ e _ hg]
    simp only [hl, Nat.add_mul]

theorem wpList_room (E : EI P t e z size bytes) {w : World} {ops : Array Oper} {rest : List Oper} {o : Oper} {a : Act} {Q : Exit → Act → World → Prop} (hgd : o.guard = none) (s x : Operand)
    (ho : o.op = .call { callee := .builtin .append, args := #[s, x], argTypes := #[t, t] })
    (g : Nat) (cur : List Value) (n cap : Nat) (hs : a.eval s = .slice (some ⟨g, 0, none⟩) n cap) (hg : w.heap[g]? = some (.cells cur.toArray e (0, 0))) (hcap : cur.length = cap * size)
    (A : Option Addr) (m c : Nat) (news : List Value) (hx : a.eval x = .slice A m c) (hr : Reads w A news) (hl : news.length = m * size) (h1 : ∀ u ∈ news, u.oneCell' = true) (hroom : n + m ≤ cap)
    (h : ∀ w', w'.heap[g]? = some (.cells (cur.take (n * size) ++ news ++ cur.drop ((n + m) * size)).toArray e (0, 0)) → w.grownBy w' (some g) → wpList P ops Q rest (a.put o.dst (.slice (some ⟨g, 0, none⟩) (n + m) cap)) w') : wpList P ops Q (o :: rest) a w :=
  wpList_plain hgd fun _ hK => by
    obtain ⟨w', hrun, h2, h3⟩ := run_room E w o.type g cur n cap hg hcap A m c news hr hl h1 hroom
    unfold Oper.wp execOp
    simp only [ho, resolve, invoke, builtin, Sem.run_bind, Sem.run_pure, Result.andThen_ok, List.map_toArray, List.map_cons, List.map_nil, hs, hx, hrun]
    exact hK _ _ (h w' h2 h3)
end

theorem madeI (n : Nat) : madeCells #[.int .i64 0] n = (icells (List.replicate n 0)).toArray := made_zero n
theorem pcells_replicate (n : Nat) (a b : Int) : ∀ j, (pcells (List.replicate n (a, b)))[j]? = if j < n * 2 then some (.int .i64 (if j % 2 = 0 then a else b)) else none := by
  induction n with
  | zero => intro j; simp [pcells]
  | succ n ih =>
    intro j
    rw [List.replicate_succ]
    match j with
    | 0 => simp [pcells]
    | 1 => simp [pcells]; omega
    | j + 2 =>
      have := ih j
      simp only [pcells, List.flatMap_cons, List.cons_append, List.nil_append, List.getElem?_cons_succ] at this ⊢
      rw [this]
      have e1 : (j + 2) % 2 = j % 2 := by omega
      rw [e1]
      by_cases h : j < n * 2
      · have h2 : j + 2 < (n + 1) * 2 := by omega
        simp only [h, h2, if_true]
      · have h2 : ¬ j + 2 < (n + 1) * 2 := by omega
        simp only [h, h2, if_false]
theorem madeP (n : Nat) : madeCells #[.int .i64 0, .int .i64 0] (n * 2) = (pcells (List.replicate n (0, 0))).toArray := by
  apply Array.ext
  · simp [madeCells, pcells_length]; omega
  · intro i h1 h2
    have h3 : i < n * 2 := by simpa [madeCells] using h1
    have := pcells_replicate n 0 0 i
    rw [if_pos h3] at this
    simp only [ite_self] at this
    have h4 := (List.getElem?_eq_some_iff.1 this).2
    simp only [List.getElem_toArray, h4]
    rcases Nat.mod_two_eq_zero_or_one i with h | h <;> simp [madeCells, h]
theorem pcells_nil_replicate0 : pcells [] = [] := rfl
theorem pcells_drop0 (l : List (Int × Int)) (k : Nat) : (pcells l).drop (k * 2) = pcells (l.drop k) := (pcells_drop l k).symm
theorem icells_drop (l : List Int) (k : Nat) : (icells l).drop k = icells (l.drop k) := by simp [icells, List.map_drop]
theorem icells_set (l : List Int) (k : Nat) (x : Int) : (icells l).set k (.int .i64 x) = icells (l.set k x) := by simp [icells, List.map_set]
end Go.Proofs.Ytglhdoibglafbaa

/- Walks of help's Own, Kept at edges and at numbers. -/
namespace Go.Proofs.Ytglhdoibglafbaa
open Go Go.RowKit
set_option maxRecDepth 100000
set_option linter.unusedVariables false

/-- The copy with room behind it: a block of the call's own, whole. -/
def OwnP {α : Type} (T : TypeId) (cells : List α → List Value) (l : List α) (f : α) (w : World) (e : Ending) (w' : World) : Prop :=
  ∃ g, e = .returned (.slice (some ⟨g, 0, none⟩) l.length (l.length + 3)) ∧ w.heap.size ≤ g ∧ w'.heap[g]? = some (.cells (cells (l ++ List.replicate 3 f)).toArray T (0, 0)) ∧ Below w.heap.size w w'

theorem heap_lt0 {w : World} {g : Nat} {o : Obj} (h : w.heap[g]? = some o) : g < w.heap.size := by
  rcases Nat.lt_or_ge g w.heap.size with hl | hl
  · exact hl
  · rw [Array.getElem?_eq_none hl] at h; cases h
theorem blkc0 {w : World} {g : Nat} {cs : Array Value} {T : TypeId} (h : w.heap[g]? = some (.cells cs T (0, 0))) (i : Nat) (v : Value) (hv : cs[i]? = some v) : w.cell? ⟨g, i, none⟩ = some v := (cell_of_row w g i cs T (0, 0) h).trans hv
theorem blkf0 {w : World} {g : Nat} {cs : Array Value} {T : TypeId} (h : w.heap[g]? = some (.cells cs T (0, 0))) (i : Nat) : w.frozen? ⟨g, i, none⟩ = false := by simp [World.frozen?, h]
theorem blk_put {w : World} {g : Nat} {cs : List Value} {T : TypeId} (h : w.heap[g]? = some (.cells cs.toArray T (0, 0))) (i : Nat) (v : Value) : (w.setCell ⟨g, i, none⟩ v).heap[g]? = some (.cells (cs.set i v).toArray T (0, 0)) := by
  simp [World.setCell, Array.getElem?_modify, h]

theorem fill_step {α : Type} (l : List α) (f z : α) (j : Nat) (hj : j < 3) : (l ++ (List.replicate j f ++ List.replicate (3 - j) z)).set (l.length + j) f = l ++ (List.replicate (j + 1) f ++ List.replicate (3 - (j + 1)) z) := by
  rw [List.set_append_right _ _ (by omega), show l.length + j - l.length = j by omega]
  congr 1
  match j, hj with
  | 0, _ => rfl
  | 1, _ => rfl
  | 2, _ => rfl
theorem fill_get {α : Type} (l : List α) (f z : α) (j : Nat) (hj : j < 3) : (l ++ (List.replicate j f ++ List.replicate (3 - j) z))[l.length + j]? = some z := by
  rw [List.getElem?_append_right (by omega), show l.length + j - l.length = j by omega]
  match j, hj with
  | 0, _ => rfl
  | 1, _ => rfl
  | 2, _ => rfl


set_option maxHeartbeats 2000000 in
theorem ownE (l : List (Int × Int)) (f1 f2 : Int) (A : Option Addr) (c : Nat) (w : World) (hr : Reads w A (pcells l)) (hc : l.length ≤ c) (hm : l.length ≤ 1000000) :
    Calls Try.prog 26 #[.slice A l.length c, .agg #[.int .i64 f1, .int .i64 f2]] w (OwnP 28 pcells l (f1, f2) w) := by
  obtain ⟨i0, hi0, hz0, hs0, hb0⟩ := info_parts (EI_edge).hinfo
  have hmk : ∀ w0 : World, (Instr.makeSlice 23 (.int .i64 0) (.int .i64 ((l.length : Int) + 3))).run Try.prog w0 = .ok (.slice (some ⟨w0.heap.size, 0, none⟩) 0 (l.length + 3)) (w0.alloc (.cells (pcells (List.replicate (l.length + 3) (0, 0))).toArray 28)) := fun w0 => by
    have h := run_make (P := Try.prog) w0 23 28 i0 (.agg #[.int .i64 0, .int .i64 0]) (EI_edge).ht hi0 hz0 .i64 .i64 0 ((l.length : Int) + 3) (by omega) (by omega) (by rw [hb0]; omega) (by omega)
    rw [h, hs0, show ((l.length : Int) + 3).toNat = l.length + 3 by omega, ← madeP]
    try rfl
  have HMK := Lib.hid hmk
  clear hmk
  go_enter Try.func26, Try.ntmps26
  have hmk := HMK.out
  go_upto_region 2 with fail
  clear hmk HMK hi0 hz0 hs0 hb0
  generalize hW : (w.alloc (Obj.cells #[Value.int .i64 f1, Value.int .i64 f2] 28)).alloc (Obj.cells (pcells (List.replicate (l.length + 3) (0, 0))).toArray 28) = W
  have hbW : Below w.heap.size w W := by rw [← hW]; (repeat (first | with_reducible exact Below.refl _ _ | with_reducible assumption | with_reducible refine below_drewN0 ?_ _ | with_reducible refine Below.drew ?_ | with_reducible refine Below.alloc ?_ ?_ _ | with_reducible refine Below.setCell ?_ ?_ _ | go_size | exact Below.size (by assumption)))
  have hF : W.heap[w.heap.size]? = some (.cells #[Value.int .i64 f1, Value.int .i64 f2] 28 (0, 0)) := by rw [← hW]; exact heap_old (heap_alloc_new w _)
  have hG : W.heap[w.heap.size + 1]? = some (.cells (pcells (List.replicate (l.length + 3) (0, 0))).toArray 28 (0, 0)) := by
    rw [← hW]
    have h := heap_alloc_new (w.alloc (Obj.cells #[Value.int .i64 f1, Value.int .i64 f2] 28)) (Obj.cells (pcells (List.replicate (l.length + 3) (0, 0))).toArray 28)
    rwa [World.size_alloc] at h
  have hrW := hr.below hbW
  have HF := Lib.hid hF
  have HG := Lib.hid hG
  clear hW hF hG hr
  have hll : (pcells l).length = l.length * 2 := by simp [pcells_length]; try omega
  have HLL := Lib.hid hll
  clear hll
  have i1 : (l.length : Int) + 3 ≤ ((l.length + 3 : Nat) : Int) := by omega
  have i2 : (0 : Int) ≤ (l.length : Int) + 3 := by omega
  have i3 : ((l.length : Int) + 3).toNat = l.length + 3 := by omega
  go_upto_region 4 with (first
    | (at_builtin; go_loud (
       refine wpList_room EI_edge rfl (.tmp 12) (.tmp 13) rfl (w.heap.size + 1) (pcells (List.replicate (l.length + 3) (0, 0))) 0 (l.length + 3) rfl HG.out ?_ A l.length c (pcells l) rfl hrW HLL.out (pcells_one l) ?_ ?_
       · simp [pcells_length]; try omega
       · omega
       intro w2 hG2 hg2
       have hb2 : Below w.heap.size w w2 := hbW.grown hg2 hbW.size (fun k hk => by cases hk; omega)
       have hF2 := Lib.hid ((hg2.block w.heap.size (heap_lt0 HF.out) (by simp)).trans HF.out)
       have HG2 : Hid (w2.heap[w.heap.size + 1]? = some (.cells (pcells (l ++ (List.replicate 0 (f1, f2) ++ List.replicate (3 - 0) (0, 0)))).toArray 28 (0, 0))) := by
         unfold Hid
         rw [hG2]
         simp only [Nat.zero_mul, List.take_zero, List.nil_append, Nat.zero_add, List.replicate_zero]
         rw [pcells_drop0, List.drop_replicate, show l.length + 3 - l.length = 3 by omega, pcells_append]
       clear hG2)))
  go_wp2_with fail
  clear hrW hbW
  go_loopw [7] (fun i wr => ∃ j : Nat, j ≤ 3 ∧ i = .int .i64 ((l.length + j : Nat) : Int) ∧ Hid (wr.heap[w.heap.size]? = some (.cells #[Value.int .i64 f1, Value.int .i64 f2] 28 (0, 0))) ∧ Hid (wr.heap[w.heap.size + 1]? = some (.cells (pcells (l ++ (List.replicate j (f1, f2) ++ List.replicate (3 - j) (0, 0)))).toArray 28 (0, 0))) ∧ Below w.heap.size w wr) (fun i _ => l.length + 3 - (intOf i).toNat)
  case atStart => exact ⟨0, by omega, rfl, hF2, HG2, hb2⟩
  case round =>
    clear hF2 HG2 hb2 hg2
    obtain ⟨j, hj, rfl, hF, hG, hb⟩ := hrel
    by_cases hlt : j < 3
    · have hfc := fun i v => blkc0 hF.out i v
      have hlF := heap_lt0 hF.out
      have hlG := heap_lt0 hG.out
      (have hx0 := hfc 0 _ rfl
       have hx1 := hfc 1 _ rfl
       have hpg := pcells_get _ _ _ (fill_get l (f1, f2) ((0 : Int), (0 : Int)) j hlt)
       rw [Nat.mul_comm] at hpg
       have hy0 := blkc0 hG.out _ _ (List.getElem?_toArray.trans hpg.1)
       have hy1 := blkc0 hG.out _ _ (List.getElem?_toArray.trans hpg.2)
       have hz0 := blkf0 hG.out ((l.length + j) * 2)
       have hz1 := blkf0 hG.out ((l.length + j) * 2 + 1)
       have j1 : ((l.length + j : Nat) : Int) < ((l.length + 3 : Nat) : Int) := by omega
       have j2 : l.length + j < l.length + 3 := by omega
       clear hpg hfc
       go_wp2_with fail)
      go_roundw
      case rel =>
        refine ⟨j + 1, by omega, by go_num, ?_, ?_, by (repeat (first | with_reducible exact Below.refl _ _ | with_reducible assumption | with_reducible refine below_drewN0 ?_ _ | with_reducible refine Below.drew ?_ | with_reducible refine Below.alloc ?_ ?_ _ | with_reducible refine Below.setCell ?_ ?_ _ | go_size | exact Below.size (by assumption)))⟩
        · exact heap_far (heap_far hF.out (by dsimp only; omega) _) (by dsimp only; omega) _
        · (have h9 := blk_put (blk_put hG.out ((l.length + j) * 2) (.int .i64 f1)) ((l.length + j) * 2 + 1) (.int .i64 f2)
           have h8 := fill_get l (f1, f2) ((0 : Int), (0 : Int)) j hlt
           rw [pcells_set0 _ _ _ _ f1 h8, pcells_set1 _ _ f1 0 f2 (by rw [List.getElem?_set_self (List.getElem?_eq_some_iff.1 h8).1]), List.set_set, fill_step _ _ _ _ hlt] at h9
           exact h9)
      case measure => simp [intOf]; omega
    · obtain rfl : j = 3 := by omega
      go_wp2_with fail
      go_ret
      refine ⟨_, rfl, by omega, ?_, hb⟩
      have h9 := hG.out
      simpa using h9

theorem kept_get {α : Type} (l : List α) (f : α) (j : Nat) (hj : j < 3) : (l ++ List.replicate 3 f)[l.length + j]? = some f := by
  rw [List.getElem?_append_right (by omega), show l.length + j - l.length = j by omega]
  match j, hj with
  | 0, _ => rfl
  | 1, _ => rfl
  | 2, _ => rfl
theorem reads_blk {w : World} {g : Nat} {cs : List Value} {T : TypeId} (h : w.heap[g]? = some (.cells cs.toArray T (0, 0))) : Reads w (some ⟨g, 0, none⟩) cs :=
  .inr ⟨g, 0, rfl, heap_lt0 h, fun j v hj => by rw [Nat.zero_add]; exact blkc0 h j v (List.getElem?_toArray.trans hj)⟩
theorem Reads.front {w : World} {A : Option Addr} {cs ds : List Value} (h : Reads w A (cs ++ ds)) : Reads w A cs := by
  rcases h with h | ⟨b, o, rfl, hb, hc⟩
  · exact .inl (by simp at h; exact h.1)
  · exact .inr ⟨b, o, rfl, hb, fun j v hj => hc j v (by rw [List.getElem?_append_left (List.getElem?_eq_some_iff.1 hj).1]; exact hj)⟩

set_option maxHeartbeats 2000000 in
theorem keptE (l : List (Int × Int)) (f1 f2 : Int) (g : Nat) (A : Option Addr) (c : Nat) (w : World) (hr : Reads w A (pcells l)) (hc : l.length ≤ c) (hm : l.length ≤ 1000000) (hG : w.heap[g]? = some (.cells (pcells (l ++ List.replicate 3 (f1, f2))).toArray 28 (0, 0))) :
    Calls Try.prog 30 #[.slice (some ⟨g, 0, none⟩) l.length (l.length + 3), .slice A l.length c, .agg #[.int .i64 f1, .int .i64 f2]] w fun e w' => e = .returned (.bool true) ∧ Below w.heap.size w w' := by
  have hrg : Reads w (some ⟨g, 0, none⟩) (pcells l) := by
    have := reads_blk hG
    rw [pcells_append] at this
    exact this.front
  have hlg := heap_lt0 hG
  have HP := fun W hR1 hR2 => sameE_plain l l (some ⟨g, 0, none⟩) A (l.length + 3) c W hR1 hR2 (by omega) hc (by omega) (by omega)
  simp only [decide_true] at HP
  have HG := Lib.hid hG
  clear hG
  have i0 : decide (((l.length + 3 : Nat) : Int) < (l.length : Int) + 3) = false := decide_eq_false (by omega)
  have i1 : (l.length : Int) + 3 ≤ ((l.length + 3 : Nat) : Int) := by omega
  have i2 : (0 : Int) ≤ (l.length : Int) + 3 := by omega
  have i3 : ((l.length : Int) + 3).toNat = l.length + 3 := by omega
  go_enter Try.func30, Try.ntmps30
  go_wp2_with (first
    | (go_at_call 51; refine (HP _ (hrg.below ?_) (hr.below ?_)).mono ?_; (repeat (first | with_reducible exact Below.refl _ _ | with_reducible assumption | with_reducible refine below_drewN0 ?_ _ | with_reducible refine Below.drew ?_ | with_reducible refine Below.alloc ?_ ?_ _ | with_reducible refine Below.setCell ?_ ?_ _ | go_size | exact Below.size (by assumption))); (repeat (first | with_reducible exact Below.refl _ _ | with_reducible assumption | with_reducible refine below_drewN0 ?_ _ | with_reducible refine Below.drew ?_ | with_reducible refine Below.alloc ?_ ?_ _ | with_reducible refine Below.setCell ?_ ?_ _ | go_size | exact Below.size (by assumption))); rintro e w1 ⟨rfl, hb1⟩
       have hF := Lib.hid ((hb1.block w.heap.size (by simp)).trans (heap_alloc_new w (Obj.cells #[Value.int .i64 f1, Value.int .i64 f2] 28)))
       have hG1 := Lib.hid ((hb1.block g (by simp; omega)).trans (heap_old HG.out))
       have hbw : Below w.heap.size w w1 := Below.trans (by (repeat (first | with_reducible exact Below.refl _ _ | with_reducible assumption | with_reducible refine below_drewN0 ?_ _ | with_reducible refine Below.drew ?_ | with_reducible refine Below.alloc ?_ ?_ _ | with_reducible refine Below.setCell ?_ ?_ _ | go_size | exact Below.size (by assumption)))) (hb1.mono (by simp))
       clear hb1))
  go_loopw [8] (fun i wr => ∃ j : Nat, j ≤ 3 ∧ i = .int .i64 ((l.length + j : Nat) : Int) ∧ Hid (Below w1.heap.size w1 wr)) (fun i _ => l.length + 3 - (intOf i).toNat)
  case atStart => exact ⟨0, by omega, rfl, Below.refl _ _⟩
  case round =>
    obtain ⟨j, hj, rfl, hb⟩ := hrel
    have hF' := (hb.out.block w.heap.size (heap_lt0 hF.out)).trans hF.out
    have hG' := (hb.out.block g (heap_lt0 hG1.out)).trans hG1.out
    by_cases hlt : j < 3
    · obtain ⟨x0, x1, _, _, _⟩ := blk2 hF'
      have hpg := pcells_get _ _ _ (kept_get l (f1, f2) j hlt)
      rw [Nat.mul_comm] at hpg
      have hy0 := blkc0 hG' _ _ (List.getElem?_toArray.trans hpg.1)
      have hy1 := blkc0 hG' _ _ (List.getElem?_toArray.trans hpg.2)
      have j1 : ((l.length + j : Nat) : Int) < ((l.length + 3 : Nat) : Int) := by omega
      have j2 : l.length + j < l.length + 3 := by omega
      clear hpg hF' hG'
      go_wp2_with fail
      go_quiet (fail)
      go_wp2_with fail
      go_roundw
      case rel => exact ⟨j + 1, by omega, by go_num, hb.out.trans (by (repeat (first | with_reducible exact Below.refl _ _ | with_reducible assumption | with_reducible refine below_drewN0 ?_ _ | with_reducible refine Below.drew ?_ | with_reducible refine Below.alloc ?_ ?_ _ | with_reducible refine Below.setCell ?_ ?_ _ | go_size | exact Below.size (by assumption))))⟩
      case measure => simp [intOf]; omega
    · obtain rfl : j = 3 := by omega
      clear hF' hG'
      go_wp2_with fail
      go_ret
      exact ⟨rfl, hbw.trans (hb.out.mono hbw.size)⟩

end Go.Proofs.Ytglhdoibglafbaa

/- Walk of reference's Size of gadgets. -/
namespace Go.Proofs.Ytglhdoibglafbaa
open Go Go.RowKit
set_option maxRecDepth 100000
set_option linter.unusedVariables false

/-- Of each vertex, how many neighbours it has. -/
def degL (m : Nat) (es : List (Int × Int)) : List Int := (List.range m).map fun (v : Nat) => ((nearB m es (v : Int)).length : Int)
theorem degL_get (m : Nat) (es : List (Int × Int)) (k : Nat) (h : k < m) : (degL m es)[k]? = some ((nearB m es (k : Int)).length : Int) := by simp [degL, h]

set_option maxHeartbeats 4000000 in
theorem refSize_ok (m : Nat) (es : List (Int × Int)) (f : List Int) (A Af : Option Addr) (c cf : Nat) (w : World) (hr : Reads w A (pcells es)) (hc : es.length ≤ c) (hm : es.length ≤ 100000)
    (hrf : Reads w Af (icells f)) (hcf : f.length ≤ cf) (hmf : f.length ≤ 4611686018427387903) (hm2 : m ≤ 4096) (hde : degErr m es f = 0) (hfl : f.length = m) (hs2 : Small2 (degL m es) f) (hfb : ∀ v ∈ f, 0 ≤ v ∧ v ≤ 4096)
    (hN : Hid (gN (degL m es) f m ≤ 65536)) (hE : Hid (gE (degL m es) f es.length m ≤ 1048576)) :
    Calls Try.prog 45 #[.agg #[.int .i64 (m : Int), .slice A es.length c], .slice Af f.length cf] w fun e w' =>
      e = .returned (.tuple #[.int .i64 (gN (degL m es) f m), .int .i64 (gE (degL m es) f es.length m), .int .i64 0]) ∧ Below w.heap.size w w' := by
  have HR := fun W hR hF => refDegRight m es f A Af c cf W hR hc (by omega) hF hcf hmf
  rw [← degErr_ok, hde] at HR
  have HNr := fun (v : Nat) W hR => refNear_any (m : Int) (v : Int) es A c W hR hc (by omega)
  have HFL := Lib.hid hfl
  have HS2 := Lib.hid hs2
  have HFB := Lib.hid hfb
  clear hde hfl hs2 hfb
  go_enter Try.func45, Try.ntmps45
  go_upto_region 4 with (go_at_call 75; go_loud (refine (HR _ (hr.below ?_) (hrf.below ?_)).mono ?_; (repeat (first | with_reducible exact Below.refl _ _ | with_reducible assumption | with_reducible refine below_drewN0 ?_ _ | with_reducible refine Below.drew ?_ | with_reducible refine Below.alloc ?_ ?_ _ | with_reducible refine Below.setCell ?_ ?_ _ | go_size | exact Below.size (by assumption))); (repeat (first | with_reducible exact Below.refl _ _ | with_reducible assumption | with_reducible refine below_drewN0 ?_ _ | with_reducible refine Below.drew ?_ | with_reducible refine Below.alloc ?_ ?_ _ | with_reducible refine Below.setCell ?_ ?_ _ | go_size | exact Below.size (by assumption))); rintro e w1 ⟨rfl, hb1⟩; have hH := (hb1.block w.heap.size (by simp)).trans (heap_alloc_new w _); have hbw : Below w.heap.size w w1 := Below.trans (by (repeat (first | with_reducible exact Below.refl _ _ | with_reducible assumption | with_reducible refine below_drewN0 ?_ _ | with_reducible refine Below.drew ?_ | with_reducible refine Below.alloc ?_ ?_ _ | with_reducible refine Below.setCell ?_ ?_ _ | go_size | exact Below.size (by assumption)))) (hb1.mono (by simp))))
  have HH := Lib.hid hH
  have hr1 := hr.below hbw
  have hrf1 := hrf.below hbw
  obtain ⟨x0, x1, _, _, _⟩ := blk2 hH
  clear hH hb1 hr hrf HR
  go_quiet (fail)
  go_wp2_with fail
  go_loopw [8, 9, 10] (fun v8 v9 i wx => ∃ k : Nat, k ≤ m ∧ i = .int .i64 k ∧ v8 = .int .i64 (gN (degL m es) f k) ∧ v9 = .int .i64 (gE (degL m es) f es.length k) ∧ Below w1.heap.size w1 wx) (fun _ _ i _ => m - (intOf i).toNat)
  case atStart => exact ⟨0, Nat.zero_le _, rfl, rfl, rfl, by (repeat (first | with_reducible exact Below.refl _ _ | with_reducible assumption | with_reducible refine below_drewN0 ?_ _ | with_reducible refine Below.drew ?_ | with_reducible refine Below.alloc ?_ ?_ _ | with_reducible refine Below.setCell ?_ ?_ _ | go_size | exact Below.size (by assumption)))⟩
  case round =>
    clear x0 x1
    obtain ⟨k, hk, rfl, rfl, rfl, hb⟩ := hrel
    have hH := (hb.block _ (heap_lt0 HH.out)).trans HH.out
    obtain ⟨x0, x1, _, _, _⟩ := blk2 hH
    have hnb := gN_bound HS2.out k
    have heb := gE_bound HS2.out (b := (es.length : Int)) (by omega) k
    by_cases hlt : k < m
    · have kI : (k : Int) < (m : Int) := by omega
      obtain ⟨fk, hfk⟩ : ∃ p, f[k]? = some p := ⟨f[k]'(by rw [HFL.out]; omega), by simp⟩
      obtain ⟨b, o, rfl, hbl, e0⟩ := hrf1.int k fk hfk
      have hs := HS2.out k
      have hgN : gN (degL m es) f (k + 1) = gN (degL m es) f k + (((nearB m es (k : Int)).length : Int) + corE ((nearB m es (k : Int)).length : Int) fk) := by
        rw [gN, degL_get m es k hlt, hfk]; rfl
      have hgE : gE (degL m es) f es.length (k + 1) = gE (degL m es) f es.length k + ((nearB m es (k : Int)).length : Int) * corE ((nearB m es (k : Int)).length : Int) fk := by
        rw [gE, degL_get m es k hlt, hfk]; rfl
      rw [degL_get m es k hlt, hfk] at hs
      simp only [Option.getD_some] at hs
      obtain ⟨s1, s2, s3⟩ := hs
      have heb1 := gE_bound HS2.out (b := (es.length : Int)) (by omega) (k + 1)
      have hnb1 := gN_bound HS2.out (k + 1)
      rw [hgE] at heb1
      rw [hgN] at hnb1
      unfold corE at hgE hgN heb1 hnb1
      have HgN := Lib.hid hgN
      have HgE := Lib.hid hgE
      have HNk := HNr k
      have kL : (k : Int) < (f.length : Int) := by rw [HFL.out]; exact kI
      generalize nearB m es (k : Int) = R at *
      generalize gN (degL m es) f k = sn at *
      generalize gE (degL m es) f es.length k = se at *
      have hmx : max (0 : Int) ((R.length : Int) - fk) = max ((R.length : Int) - fk) 0 := by omega
      have s4 : fk ≤ 4096 := (HFB.out fk (List.mem_of_getElem? hfk)).2
      clear hfk hgN hgE
      go_upto_region 9 with (go_at_call 39; go_loud (refine (HNk _ (hr1.below hb)).mono ?_; rintro e w3 ⟨A3, c3, rfl, hc3, hr3, hb3⟩))
      have hb4 := hb.trans (hb3.mono hb.size)
      have e1 := (hb4.cell (p := ⟨b, o + k, none⟩) hbl).trans e0
      have q1 : IntKind.i64.wrap ((R.length : Int) - fk) = (R.length : Int) - fk := by rw [IntKind.wrap_i64]; omega
      clear e0 hr3 hc3 hb3 HNk x0 x1 hH
      go_upto_region 10 with fail
      have hif : (if fk < (R.length : Int) then (R.length : Int) - fk else 0) = max ((R.length : Int) - fk) 0 := by split <;> omega
      rw [hif]
      have hr0 : 0 ≤ max ((R.length : Int) - fk) 0 := by omega
      clear hif hmx
      generalize max ((R.length : Int) - fk) 0 = r at *
      have t1 : IntKind.i64.wrap (sn + (R.length : Int)) = sn + (R.length : Int) := by rw [IntKind.wrap_i64]; omega
      have t2 : IntKind.i64.wrap (sn + (R.length : Int) + r) = sn + (R.length : Int) + r := by rw [IntKind.wrap_i64]; omega
      have t3 : IntKind.i64.wrap ((R.length : Int) * r) = (R.length : Int) * r := by rw [IntKind.wrap_i64]; omega
      have t4 : IntKind.i64.wrap (se + (R.length : Int) * r) = se + (R.length : Int) * r := by rw [IntKind.wrap_i64]; omega
      go_wp2_with fail
      go_roundw
      case rel => exact ⟨k + 1, by omega, by go_num, by rw [HgN.out]; congr 1; omega, by rw [HgE.out], hb4⟩
      case measure => simp [intOf]; omega
    · obtain rfl : k = m := by omega
      have hN1 : ¬ (65536 < gN (degL k es) f k) := by have := hN.out; omega
      have hE1 : ¬ (1048576 < gE (degL k es) f es.length k) := by have := hE.out; omega
      have hN2 : decide (65536 < gN (degL k es) f k) = false := decide_eq_false hN1
      have hE2 : decide (1048576 < gE (degL k es) f es.length k) = false := decide_eq_false hE1
      generalize hA : gN (degL k es) f k = sn at *
      generalize hB : gE (degL k es) f es.length k = se at *
      have HA := Lib.hid hA
      have HB := Lib.hid hB
      clear hA hB
      go_wp2_with fail
      go_ret3
      exact ⟨by rw [HA.out, HB.out]; rfl, hbw.trans (hb.mono hbw.size)⟩
end Go.Proofs.Ytglhdoibglafbaa

/- The walk of gadget.Size. -/
namespace Go.Proofs.Ytglhdoibglafbaa
open Go Go.RowKit
set_option maxRecDepth 100000
set_option linter.unusedVariables false

theorem degErr_small {m : Nat} {es : List (Int × Int)} {f : List Int} (hde : degErr m es f = 0) : RightP m es ∧ f.length = m ∧ (∀ v ∈ f, 0 ≤ v ∧ v ≤ 4096) ∧ Small2 (ports m es) f := by
  have hR : RightP m es := (right_iff _ _).1 (by
    unfold degErr at hde
    by_cases h : rightB m es = false
    · rw [if_pos h] at hde; omega
    · simpa using h)
  have hfl : f.length = m ∧ ∀ v ∈ f, 0 ≤ v ∧ v ≤ 4096 := by
    unfold degErr at hde
    rw [if_neg (by rw [(right_iff _ _).2 hR]; simp)] at hde
    by_cases h1 : (f.length : Int) = (m : Int)
    · rw [if_neg (by simpa using h1)] at hde
      by_cases h2 : 0 ≤ idxB badDeg f
      · rw [if_pos h2] at hde; omega
      · refine ⟨by omega, fun v hv => ?_⟩
        unfold idxB at h2
        cases hfi : f.findIdx? badDeg with
        | some i => rw [hfi] at h2; simp at h2
        | none =>
          have := List.findIdx?_eq_none_iff.1 hfi v hv
          unfold badDeg at this
          simp at this
          omega
    · rw [if_pos h1] at hde; omega
  refine ⟨hR, hfl.1, hfl.2, fun i => ?_⟩
  have hl := hR.len
  refine ⟨?_, ?_, ?_⟩
  · cases hp : (ports m es)[i]? with
    | none => simp
    | some v => have := ports_bound m es v (List.mem_of_getElem? hp); simp; omega
  · cases hp : (ports m es)[i]? with
    | none => simp
    | some v => have := ports_bound m es v (List.mem_of_getElem? hp); simp; omega
  · cases hp : f[i]? with
    | none => simp
    | some v => have := hfl.2 v (List.mem_of_getElem? hp); simp; exact this.1

/-- How large the gadget is, or why there is none. -/
def sizeOf3 (m : Nat) (es : List (Int × Int)) (f : List Int) : Int × Int × Int :=
  if degErr m es f ≠ 0 then (0, 0, degErr m es f) else if 65536 < gN (ports m es) f m ∨ 1048576 < gE (ports m es) f es.length m then (0, 0, 13) else (gN (ports m es) f m, gE (ports m es) f es.length m, 0)

set_option maxHeartbeats 1000000 in
theorem size_any (m : Nat) (es : List (Int × Int)) (f : List Int) (A Af : Option Addr) (c cf : Nat) (w : World) (hr : Reads w A (pcells es)) (hc : es.length ≤ c) (hm : es.length ≤ 4611686018427387903)
    (hrf : Reads w Af (icells f)) (hcf : f.length ≤ cf) (hmf : f.length ≤ 4611686018427387903) :
    Calls Try.prog 15 #[.agg #[.int .i64 (m : Int), .slice A es.length c], .slice Af f.length cf] w fun e w' =>
      e = .returned (.tuple #[.int .i64 (sizeOf3 m es f).1, .int .i64 (sizeOf3 m es f).2.1, .int .i64 (sizeOf3 m es f).2.2]) ∧ Below w.heap.size w w' := by
  by_cases hde : degErr m es f = 0
  · have HN := fun W hR hF => new_any m es f A Af c cf W hR hc hm hF hcf hmf hde
    have HS : sizeOf3 m es f = if 65536 < gN (ports m es) f m ∨ 1048576 < gE (ports m es) f es.length m then (0, 0, 13) else (gN (ports m es) f m, gE (ports m es) f es.length m, 0) := by unfold sizeOf3; rw [if_neg (by simpa using hde)]
    unfold NewPost at HN
    have hgn : 0 ≤ gN (ports m es) f m ∨ True := .inr trivial
    by_cases hbig : 65536 < gN (ports m es) f m ∨ 1048576 < gE (ports m es) f es.length m
    · rw [if_pos hbig] at HS
      rw [HS]
      have HN' : ∀ W, Reads W A (pcells es) → Reads W Af (icells f) → Calls Try.prog 61 #[.agg #[.int .i64 (m : Int), .slice A es.length c], .slice Af f.length cf] W fun e w' => e = .returned (.tuple #[.pointer none, .int .i64 13]) ∧ Below W.heap.size W w' :=
        fun W h1 h2 => (HN W h1 h2).mono fun e w' h => by
          rcases h with h | h
          · exact h.2
          · exact absurd hbig h.1
      clear HN HS hbig hde
      go_enter Try.func15, Try.ntmps15
      go_wp2_with (first | (go_at_call 61; refine (HN' _ (hr.below ?_) (hrf.below ?_)).mono ?_; (repeat (first | with_reducible exact Below.refl _ _ | with_reducible assumption | with_reducible refine below_drewN0 ?_ _ | with_reducible refine Below.drew ?_ | with_reducible refine Below.alloc ?_ ?_ _ | with_reducible refine Below.setCell ?_ ?_ _ | go_size | exact Below.size (by assumption))); (repeat (first | with_reducible exact Below.refl _ _ | with_reducible assumption | with_reducible refine below_drewN0 ?_ _ | with_reducible refine Below.drew ?_ | with_reducible refine Below.alloc ?_ ?_ _ | with_reducible refine Below.setCell ?_ ?_ _ | go_size | exact Below.size (by assumption))); rintro e w1 ⟨rfl, hb1⟩; have hbw : Below w.heap.size w w1 := Below.trans (by (repeat (first | with_reducible exact Below.refl _ _ | with_reducible assumption | with_reducible refine below_drewN0 ?_ _ | with_reducible refine Below.drew ?_ | with_reducible refine Below.alloc ?_ ?_ _ | with_reducible refine Below.setCell ?_ ?_ _ | go_size | exact Below.size (by assumption)))) (hb1.mono (by simp))))
      go_ret3
      exact ⟨rfl, hbw⟩
    · rw [if_neg hbig] at HS
      rw [HS]
      have HN' : ∀ W, Reads W A (pcells es) → Reads W Af (icells f) → Calls Try.prog 61 #[.agg #[.int .i64 (m : Int), .slice A es.length c], .slice Af f.length cf] W fun e w' => ∃ (g bN N : Nat), e = .returned (.tuple #[.pointer (some ⟨g, 0, none⟩), .int .i64 0]) ∧ Below W.heap.size W w' ∧ W.heap.size ≤ g ∧ g < w'.heap.size ∧
          w'.cell? ⟨g, 0, none⟩ = some (.slice (some ⟨bN, 0, none⟩) N N) ∧ w'.cell? ⟨g, 4, none⟩ = some (.int .i64 (gE (ports m es) f es.length m)) ∧ Hid ((N : Int) = gN (ports m es) f m) :=
        fun W h1 h2 => (HN W h1 h2).mono fun e w' h => by
          rcases h with h | ⟨_, g, bF, bP, bC, bN, he, hb, hg, _, _, _, hG⟩
          · exact absurd h.1 hbig
          · refine ⟨g, bN, _, he, hb, hg, blkl hG.1, blkc hG.1 0 _ rfl, blkc hG.1 4 _ rfl, ?_⟩
            unfold Hid
            have := (gN_bound (degErr_small hde).2.2.2 m).1
            omega
      clear HN HS hbig hde
      go_enter Try.func15, Try.ntmps15
      go_wp2_with (first | (go_at_call 61; refine (HN' _ (hr.below ?_) (hrf.below ?_)).mono ?_; (repeat (first | with_reducible exact Below.refl _ _ | with_reducible assumption | with_reducible refine below_drewN0 ?_ _ | with_reducible refine Below.drew ?_ | with_reducible refine Below.alloc ?_ ?_ _ | with_reducible refine Below.setCell ?_ ?_ _ | go_size | exact Below.size (by assumption))); (repeat (first | with_reducible exact Below.refl _ _ | with_reducible assumption | with_reducible refine below_drewN0 ?_ _ | with_reducible refine Below.drew ?_ | with_reducible refine Below.alloc ?_ ?_ _ | with_reducible refine Below.setCell ?_ ?_ _ | go_size | exact Below.size (by assumption))); rintro e w1 ⟨g, bN, N, rfl, hb1, hg1, hg2, z0, z4, hNN⟩; have hbw : Below w.heap.size w w1 := Below.trans (by (repeat (first | with_reducible exact Below.refl _ _ | with_reducible assumption | with_reducible refine below_drewN0 ?_ _ | with_reducible refine Below.drew ?_ | with_reducible refine Below.alloc ?_ ?_ _ | with_reducible refine Below.setCell ?_ ?_ _ | go_size | exact Below.size (by assumption)))) (hb1.mono (by simp))))
      go_quiet (fail)
      go_wp2_with fail
      go_ret3
      refine ⟨?_, below_drewN0 hbw nq⟩
      rw [← hNN.out]
      rfl
  · have HN := fun W hR hF => new_err m es f A Af c cf W hR hc hm hF hcf hmf hde
    have HS : sizeOf3 m es f = (0, 0, degErr m es f) := by unfold sizeOf3; rw [if_pos hde]
    rw [HS]
    clear HS
    generalize degErr m es f = d at HN hde ⊢
    have hd' : (d != 0) = true := by simpa using hde
    clear hde
    go_enter Try.func15, Try.ntmps15
    go_wp2_with (first | (go_at_call 61; refine (HN _ (hr.below ?_) (hrf.below ?_)).mono ?_; (repeat (first | with_reducible exact Below.refl _ _ | with_reducible assumption | with_reducible refine below_drewN0 ?_ _ | with_reducible refine Below.drew ?_ | with_reducible refine Below.alloc ?_ ?_ _ | with_reducible refine Below.setCell ?_ ?_ _ | go_size | exact Below.size (by assumption))); (repeat (first | with_reducible exact Below.refl _ _ | with_reducible assumption | with_reducible refine below_drewN0 ?_ _ | with_reducible refine Below.drew ?_ | with_reducible refine Below.alloc ?_ ?_ _ | with_reducible refine Below.setCell ?_ ?_ _ | go_size | exact Below.size (by assumption))); rintro e w1 ⟨rfl, hb1⟩; have hbw : Below w.heap.size w w1 := Below.trans (by (repeat (first | with_reducible exact Below.refl _ _ | with_reducible assumption | with_reducible refine below_drewN0 ?_ _ | with_reducible refine Below.drew ?_ | with_reducible refine Below.alloc ?_ ?_ _ | with_reducible refine Below.setCell ?_ ?_ _ | go_size | exact Below.size (by assumption)))) (hb1.mono (by simp))))
    go_ret3
    exact ⟨rfl, hbw⟩

/-- awake: two vertices, one edge. -/
theorem awake24 (w : World) : Calls Try.prog 16 #[] w fun e w' => e = .returned (.bool true) ∧ Below w.heap.size w w' := by
  have HZ := fun W A Af hR hF => size_any 2 [(0, 1)] [1, 0] A Af 1 2 W hR (by simp) (by simp) hF (by simp) (by simp)
  have e1 : sizeOf3 2 [(0, 1)] [1, 0] = (3, 2, 0) := by decide
  rw [e1] at HZ
  simp only [] at HZ
  go_enter Try.func16, Try.ntmps16
  go_wp2_with (go_at_call 15; refine (HZ _ _ _ ?_ ?_).mono ?_; exact (reads_new w [_, _] _).below (Below.alloc (Below.refl _ _) (Nat.le_refl _) _); exact (by have := reads_new (w.alloc (Obj.cells #[Value.int IntKind.i64 0, Value.int IntKind.i64 1] 28)) [.int .i64 1, .int .i64 0] 3; rwa [World.size_alloc] at this); rintro e w1 ⟨rfl, hb1⟩)
  go_ret
  exact ⟨rfl, Below.trans (by (repeat (first | with_reducible exact Below.refl _ _ | with_reducible assumption | with_reducible refine below_drewN0 ?_ _ | with_reducible refine Below.drew ?_ | with_reducible refine Below.alloc ?_ ?_ _ | with_reducible refine Below.setCell ?_ ?_ _ | go_size | exact Below.size (by assumption)))) (hb1.mono (by simp; omega))⟩
end Go.Proofs.Ytglhdoibglafbaa

/- Walk of gadget.Places. -/
namespace Go.Proofs.Ytglhdoibglafbaa
open Go Go.RowKit
set_option maxRecDepth 100000
set_option linter.unusedVariables false

abbrev Pl := Int × Int × Bool
def plcells (l : List Pl) : List Value := l.flatMap fun e => [.int .i64 e.1, .int .i64 e.2.1, .bool e.2.2]
theorem plcells_length (l : List Pl) : (plcells l).length = l.length * 3 := by
  induction l with
  | nil => rfl
  | cons e l ih => simp only [plcells, List.flatMap_cons, List.length_append] at *; simp [ih]; omega
theorem plcells_append (l l' : List Pl) : plcells (l ++ l') = plcells l ++ plcells l' := by simp [plcells]
def prt (v k : Nat) : List Pl := (List.range k).map fun (i : Nat) => ((v : Int), (i : Int), false)
def cor (v k : Nat) : List Pl := (List.range k).map fun (i : Nat) => ((v : Int), (i : Int), true)
theorem prt_succ (v k : Nat) : prt v (k + 1) = prt v k ++ [((v : Int), (k : Int), false)] := by simp [prt, List.range_succ]
theorem cor_succ (v k : Nat) : cor v (k + 1) = cor v k ++ [((v : Int), (k : Int), true)] := by simp [cor, List.range_succ]
theorem prt_length (v k : Nat) : (prt v k).length = k := by simp [prt]
theorem cor_length (v k : Nat) : (cor v k).length = k := by simp [cor]
def placesL (P C : List Int) (k : Nat) : List Pl := (List.range k).flatMap fun v => prt v (P[v]?.getD 0).toNat ++ cor v (C[v]?.getD 0).toNat
theorem placesL_succ (P C : List Int) (k : Nat) : placesL P C (k + 1) = placesL P C k ++ (prt k (P[k]?.getD 0).toNat ++ cor k (C[k]?.getD 0).toNat) := by simp [placesL, List.range_succ]

theorem EI_place : EI Try.prog 63 70 (.agg #[.int .i64 0, .int .i64 0, .bool false]) 3 24 := ⟨Try.underlying63, by kernel_rfl, rfl, by decide, by decide⟩

theorem one_plc (a b : Int) (t : Bool) : ∀ u ∈ ([.int .i64 a, .int .i64 b, .bool t] : List Value), u.oneCell' = true := by simp [Value.oneCell']

set_option maxHeartbeats 4000000 in
theorem places_ok (m : Nat) (es : List (Int × Int)) (f P C : List Int) (A Af : Option Addr) (c cf : Nat) (w : World) (hr : Reads w A (pcells es)) (hrf : Reads w Af (icells f))
    (hm : m ≤ 100000) (hPl : P.length = m) (hCl : C.length = m) (hP : ∀ i : Nat, 0 ≤ P[i]?.getD 0) (hC : ∀ i : Nat, 0 ≤ C[i]?.getD 0) (hlen : ∀ k, k ≤ m → (placesL P C k).length ≤ 65536) (hP2 : ∀ i : Nat, P[i]?.getD 0 ≤ 65536) (hC2 : ∀ i : Nat, C[i]?.getD 0 ≤ 65536)
    (HN : ∀ W, Reads W A (pcells es) → Reads W Af (icells f) → Calls Try.prog 61 #[.agg #[.int .i64 (m : Int), .slice A es.length c], .slice Af f.length cf] W fun e w' => ∃ (g bP bC : Nat), e = .returned (.tuple #[.pointer (some ⟨g, 0, none⟩), .int .i64 0]) ∧ Below W.heap.size W w' ∧ g < w'.heap.size ∧
          w'.cell? ⟨g, 2, none⟩ = some (.slice (some ⟨bP, 0, none⟩) m m) ∧ w'.cell? ⟨g, 3, none⟩ = some (.slice (some ⟨bC, 0, none⟩) m m) ∧ RowI w' 3 bP P ∧ RowI w' 3 bC C) :
    Calls Try.prog 46 #[.agg #[.int .i64 (m : Int), .slice A es.length c], .slice Af f.length cf] w fun e w' => ∃ v, e = .returned (.tuple #[v, .int .i64 0]) ∧ w'.ownsRow w.heap.size 70 3 v (placesL P C m).length (plcells (placesL P C m)) ∧ Below w.heap.size w w' := by
  have HPl := Lib.hid hPl
  have HCl := Lib.hid hCl
  clear hPl hCl
  go_enter Try.func46, Try.ntmps46
  go_upto_region 6 with (go_at_call 61; go_loud (refine (HN _ (hr.below ?_) (hrf.below ?_)).mono ?_; (repeat (first | with_reducible exact Below.refl _ _ | with_reducible assumption | with_reducible refine below_drewN0 ?_ _ | with_reducible refine Below.drew ?_ | with_reducible refine Below.alloc ?_ ?_ _ | with_reducible refine Below.setCell ?_ ?_ _ | go_size | exact Below.size (by assumption))); (repeat (first | with_reducible exact Below.refl _ _ | with_reducible assumption | with_reducible refine below_drewN0 ?_ _ | with_reducible refine Below.drew ?_ | with_reducible refine Below.alloc ?_ ?_ _ | with_reducible refine Below.setCell ?_ ?_ _ | go_size | exact Below.size (by assumption))); rintro e w1 ⟨g, bP, bC, rfl, hb1, hg1, z2, z3, hRP, hRC⟩; have hbw : Below w.heap.size w w1 := Below.trans (by (repeat (first | with_reducible exact Below.refl _ _ | with_reducible assumption | with_reducible refine below_drewN0 ?_ _ | with_reducible refine Below.drew ?_ | with_reducible refine Below.alloc ?_ ?_ _ | with_reducible refine Below.setCell ?_ ?_ _ | go_size | exact Below.size (by assumption)))) (hb1.mono (by simp))))
  have hG2 := Lib.hid (fun (W : World) (h : Below w1.heap.size w1 W) => (⟨(h.cell (p := ⟨g, 2, none⟩) hg1).trans z2, (h.cell (p := ⟨g, 3, none⟩) hg1).trans z3⟩ : W.cell? ⟨g, 2, none⟩ = some (.slice (some ⟨bP, 0, none⟩) m m) ∧ W.cell? ⟨g, 3, none⟩ = some (.slice (some ⟨bC, 0, none⟩) m m)))
  have HRP := Lib.hid hRP
  have HRC := Lib.hid hRC
  clear hRP hRC z2 z3 HN hb1 hr hrf
  have hw1 := hbw.size
  go_loopw [8, 27] (fun v8 i wx => ∃ (k : Nat) (A8 : Option Addr) (c8 : Nat), k ≤ m ∧ i = .int .i64 k ∧ v8 = .slice A8 (placesL P C k).length c8 ∧ Hid (wx.ownsRow w1.heap.size 70 3 (.slice A8 (placesL P C k).length c8) (placesL P C k).length (plcells (placesL P C k))) ∧ Below w1.heap.size w1 wx) (fun _ i _ => m - (intOf i).toNat)
  case atStart => exact ⟨0, none, 0, Nat.zero_le _, rfl, rfl, own_nil0 _ _ _ _, Below.refl _ _⟩
  case round =>
    obtain ⟨k, A8, c8, hk, rfl, rfl, ho, hb⟩ := hrel
    by_cases hkm : k < m
    · have kI : (k : Int) < (m : Int) := by omega
      obtain ⟨p, hp⟩ : ∃ p : Nat, P[k]? = some (p : Int) := by
        have h1 : k < P.length := by rw [HPl.out]; exact hkm
        have h2 := hP k
        rw [List.getElem?_eq_getElem h1] at h2
        exact ⟨P[k].toNat, by rw [List.getElem?_eq_getElem h1, Int.toNat_of_nonneg (by simpa using h2)]⟩
      obtain ⟨q, hq⟩ : ∃ q : Nat, C[k]? = some (q : Int) := by
        have h1 : k < C.length := by rw [HCl.out]; exact hkm
        have h2 := hC k
        rw [List.getElem?_eq_getElem h1] at h2
        exact ⟨C[k].toNat, by rw [List.getElem?_eq_getElem h1, Int.toNat_of_nonneg (by simpa using h2)]⟩
      have hpl := Lib.hid (placesL_succ P C k)
      rw [hp, hq] at hpl
      simp only [Option.getD_some, Int.toNat_natCast] at hpl
      have hlk := hlen (k + 1) (by omega)
      rw [hpl.out] at hlk
      simp only [List.length_append, prt_length, cor_length] at hlk
      have cP := (HRP.out.below hb HRP.out.lt).cell hp
      obtain ⟨g2, g3⟩ := hG2.out wr hb
      have hp2 : (p : Int) ≤ 65536 := by have := hP2 k; rw [hp] at this; simpa using this
      have hq2 : (q : Int) ≤ 65536 := by have := hC2 k; rw [hq] at this; simpa using this
      have HCq := Lib.hid hq
      clear hp hq
      generalize placesL P C k = L at ho hpl hlk
      go_upto_region 9 with fail
      (go_loopw [8, 33] (fun v8 i wx => ∃ (j : Nat) (A8 : Option Addr) (c8 : Nat), j ≤ p ∧ i = .int .i64 j ∧ v8 = .slice A8 (L ++ prt k j).length c8 ∧ Hid (wx.ownsRow w1.heap.size 70 3 (.slice A8 (L ++ prt k j).length c8) (L ++ prt k j).length (plcells (L ++ prt k j))) ∧ Below w1.heap.size w1 wx) (fun _ i _ => p - (intOf i).toNat)
       case atStart => exact ⟨0, A8, c8, Nat.zero_le _, rfl, by simp [prt], by simpa [prt] using ho, hb⟩
       case round =>
         clear ho hb
         obtain ⟨j, A8, c8, hj, rfl, rfl, ho, hb⟩ := hrel
         by_cases hjp : j < p
         · have jI : (j : Int) < (p : Int) := by omega
           have hS := Lib.hid (prt_succ k j)
           have hLL : (L ++ prt k j).length = (L).length + j := by rw [List.length_append, prt_length]
           have hLb : (L).length + j + 1 ≤ 70000 := by omega
           have hbs := hb.size
           have HLL := Lib.hid hLL
           clear hLL
           generalize hM : L ++ prt k j = M at ho HLL ⊢
           clear hlen hP hC hP2 hC2
           go_wp2_with (first
             | (at_builtin; go_loud (
                refine wpList_app EI_place rfl (.tmp 36) (.tmp 40) rfl w1.heap.size (.slice A8 M.length c8) M.length (plcells M) rfl ?_ (some ⟨_, 0, none⟩) 1 1 [.int .i64 k, .int .i64 j, .bool false] rfl ?_ rfl (one_plc _ _ _) ?_ ?_ ?_
                · exact own_below0 ho.out (by (repeat (first | with_reducible exact Below.refl _ _ | with_reducible assumption | with_reducible refine below_drewN0 ?_ _ | with_reducible refine Below.drew ?_ | with_reducible refine Below.alloc ?_ ?_ _ | with_reducible refine Below.setCell ?_ ?_ _ | go_size | exact Below.size (by assumption))))
                · exact reads_new _ [_, _, _] _
                · have := HLL.out; omega
                · go_size
                intro v5 w5 hown5 hg5 hat5
                have hb5 : Below w1.heap.size w1 w5 := below_app (by (repeat (first | with_reducible exact Below.refl _ _ | with_reducible assumption | with_reducible refine below_drewN0 ?_ _ | with_reducible refine Below.drew ?_ | with_reducible refine Below.alloc ?_ ?_ _ | with_reducible refine Below.setCell ?_ ?_ _ | go_size | exact Below.size (by assumption)))) hg5 (by go_size) (fun g hg => (own_lt0 ho.out g hg).1)
                obtain ⟨A5, c5, rfl, hc5, _⟩ := own_reads0 hown5)))
           go_roundw
           case rel =>
             have hMe : L ++ prt k (j + 1) = M ++ [((k : Int), (j : Int), false)] := by rw [hS.out, ← List.append_assoc, hM]
             have hMl : (L ++ prt k (j + 1)).length = M.length + 1 := by rw [hMe]; simp
             refine ⟨j + 1, A5, c5, by omega, by go_num, by rw [hMl], ?_, hb5⟩
             unfold Hid
             rw [hMl]
             refine own_cast hown5 (Nat.le_refl _) rfl ?_
             rw [hMe, plcells_append]
             rfl
           case measure => simp [intOf]; omega
         · obtain rfl : j = p := by omega
           (have q3 := (hG2.out wr hb).2
            have cC := (HRC.out.below hb HRC.out.lt).cell HCq.out
            have hq' : ((L ++ prt k j) ++ cor k q).length ≤ 65536 := by simp only [List.length_append, prt_length, cor_length]; omega
            have hpl2 : Hid (placesL P C (k + 1) = (L ++ prt k j) ++ cor k q) := by unfold Hid; rw [hpl.out, List.append_assoc]
            clear hpl g2 g3 cP
            generalize hLL : L ++ prt k j = L2 at *
            clear hLL hlk
            have hlk : L2.length + (0 + q) ≤ 65536 := by simp only [List.length_append, cor_length] at hq'; omega
            clear hq'
            go_upto_region 14 with fail
            (go_loopw [8, 50] (fun v8 i wx => ∃ (j : Nat) (A8 : Option Addr) (c8 : Nat), j ≤ q ∧ i = .int .i64 j ∧ v8 = .slice A8 (L2 ++ cor k j).length c8 ∧ Hid (wx.ownsRow w1.heap.size 70 3 (.slice A8 (L2 ++ cor k j).length c8) (L2 ++ cor k j).length (plcells (L2 ++ cor k j))) ∧ Below w1.heap.size w1 wx) (fun _ i _ => q - (intOf i).toNat)
             case atStart => exact ⟨0, A8, c8, Nat.zero_le _, rfl, by simp [cor], by simpa [cor] using ho, hb⟩
             case round =>
               clear ho hb
               obtain ⟨j, A8, c8, hj, rfl, rfl, ho, hb⟩ := hrel
               by_cases hjp : j < q
               · have jI : (j : Int) < (q : Int) := by omega
                 have hS := Lib.hid (cor_succ k j)
                 have hLL : (L2 ++ cor k j).length = (L2).length + j := by rw [List.length_append, cor_length]
                 have hLb : (L2).length + j + 1 ≤ 70000 := by omega
                 have hbs := hb.size
                 have HLL := Lib.hid hLL
                 clear hLL
                 generalize hM : L2 ++ cor k j = M at ho HLL ⊢
                 clear hlen hP hC hP2 hC2
                 go_wp2_with (first
                   | (at_builtin; go_loud (
                      refine wpList_app EI_place rfl (.tmp 53) (.tmp 57) rfl w1.heap.size (.slice A8 M.length c8) M.length (plcells M) rfl ?_ (some ⟨_, 0, none⟩) 1 1 [.int .i64 k, .int .i64 j, .bool true] rfl ?_ rfl (one_plc _ _ _) ?_ ?_ ?_
                      · exact own_below0 ho.out (by (repeat (first | with_reducible exact Below.refl _ _ | with_reducible assumption | with_reducible refine below_drewN0 ?_ _ | with_reducible refine Below.drew ?_ | with_reducible refine Below.alloc ?_ ?_ _ | with_reducible refine Below.setCell ?_ ?_ _ | go_size | exact Below.size (by assumption))))
                      · exact reads_new _ [_, _, _] _
                      · have := HLL.out; omega
                      · go_size
                      intro v5 w5 hown5 hg5 hat5
                      have hb5 : Below w1.heap.size w1 w5 := below_app (by (repeat (first | with_reducible exact Below.refl _ _ | with_reducible assumption | with_reducible refine below_drewN0 ?_ _ | with_reducible refine Below.drew ?_ | with_reducible refine Below.alloc ?_ ?_ _ | with_reducible refine Below.setCell ?_ ?_ _ | go_size | exact Below.size (by assumption)))) hg5 (by go_size) (fun g hg => (own_lt0 ho.out g hg).1)
                      obtain ⟨A5, c5, rfl, hc5, _⟩ := own_reads0 hown5)))
                 go_roundw
                 case rel =>
                   have hMe : L2 ++ cor k (j + 1) = M ++ [((k : Int), (j : Int), true)] := by rw [hS.out, ← List.append_assoc, hM]
                   have hMl : (L2 ++ cor k (j + 1)).length = M.length + 1 := by rw [hMe]; simp
                   refine ⟨j + 1, A5, c5, by omega, by go_num, by rw [hMl], ?_, hb5⟩
                   unfold Hid
                   rw [hMl]
                   refine own_cast hown5 (Nat.le_refl _) rfl ?_
                   rw [hMe, plcells_append]
                   rfl
                 case measure => simp [intOf]; omega
               · obtain rfl : j = q := by omega
                 (go_wp2_with fail
                  go_roundw
                  case rel => exact ⟨k + 1, A8, c8, by omega, by go_num, by rw [hpl2.out], by rw [hpl2.out]; exact ho, hb⟩
                  case measure => simp [intOf]; omega))))
    · obtain rfl : k = m := by omega
      clear hlen hP hC hP2 hC2
      go_wp2_with fail
      go_ret2
      exact ⟨_, rfl, own_cast ho.out hw1 rfl rfl, hbw.trans (hb.mono hw1)⟩
end Go.Proofs.Ytglhdoibglafbaa

/- Walk of reference's Places of gadgets. -/
namespace Go.Proofs.Ytglhdoibglafbaa
open Go Go.RowKit
set_option maxRecDepth 100000
set_option linter.unusedVariables false


set_option maxHeartbeats 4000000 in
theorem refPlaces_ok (m : Nat) (es : List (Int × Int)) (f P C : List Int) (A Af : Option Addr) (c cf : Nat) (s1 s2 : Int) (w : World) (hr : Reads w A (pcells es)) (hc : es.length ≤ c) (hm : es.length ≤ 100000)
    (hrf : Reads w Af (icells f)) (hcf : f.length ≤ cf) (hmf : f.length ≤ 4611686018427387903) (hm2 : m ≤ 4096) (hfl : f.length = m) (hfb : ∀ v ∈ f, 0 ≤ v ∧ v ≤ 4096)
    (hPk : ∀ k : Nat, k < m → P[k]? = some ((nearB m es (k : Int)).length : Int)) (hCk : ∀ (k : Nat) (x : Int), f[k]? = some x → C[k]? = some (corE ((nearB m es (k : Int)).length : Int) x))
    (hlen : ∀ k, k ≤ m → (placesL P C k).length ≤ 65536) (hdeg : ∀ k : Nat, (nearB m es (k : Int)).length ≤ 131072)
    (HSz : ∀ W, Reads W A (pcells es) → Reads W Af (icells f) → Calls Try.prog 45 #[.agg #[.int .i64 (m : Int), .slice A es.length c], .slice Af f.length cf] W fun e w' => e = .returned (.tuple #[.int .i64 s1, .int .i64 s2, .int .i64 0]) ∧ Below W.heap.size W w') :
    Calls Try.prog 47 #[.agg #[.int .i64 (m : Int), .slice A es.length c], .slice Af f.length cf] w fun e w' => ∃ v, e = .returned (.tuple #[v, .int .i64 0]) ∧ w'.ownsRow w.heap.size 70 3 v (placesL P C m).length (plcells (placesL P C m)) ∧ Below w.heap.size w w' := by
  have HNr := fun (v : Nat) W hR => refNear_any (m : Int) (v : Int) es A c W hR hc (by omega)
  have HFL := Lib.hid hfl
  have HFB := Lib.hid hfb
  have HPK := Lib.hid hPk
  have HCK := Lib.hid hCk
  have HLN := Lib.hid hlen
  have HDG := Lib.hid hdeg
  clear hfl hfb hPk hCk hlen hdeg
  go_enter Try.func47, Try.ntmps47
  go_upto_region 6 with (go_at_call 45; go_loud (refine (HSz _ (hr.below ?_) (hrf.below ?_)).mono ?_; (repeat (first | with_reducible exact Below.refl _ _ | with_reducible assumption | with_reducible refine below_drewN0 ?_ _ | with_reducible refine Below.drew ?_ | with_reducible refine Below.alloc ?_ ?_ _ | with_reducible refine Below.setCell ?_ ?_ _ | go_size | exact Below.size (by assumption))); (repeat (first | with_reducible exact Below.refl _ _ | with_reducible assumption | with_reducible refine below_drewN0 ?_ _ | with_reducible refine Below.drew ?_ | with_reducible refine Below.alloc ?_ ?_ _ | with_reducible refine Below.setCell ?_ ?_ _ | go_size | exact Below.size (by assumption))); rintro e w1 ⟨rfl, hb1⟩; have hH := (hb1.block w.heap.size (by simp)).trans (heap_alloc_new w _); have hbw : Below w.heap.size w w1 := Below.trans (by (repeat (first | with_reducible exact Below.refl _ _ | with_reducible assumption | with_reducible refine below_drewN0 ?_ _ | with_reducible refine Below.drew ?_ | with_reducible refine Below.alloc ?_ ?_ _ | with_reducible refine Below.setCell ?_ ?_ _ | go_size | exact Below.size (by assumption)))) (hb1.mono (by simp))))
  have HH := Lib.hid hH
  have hr1 := hr.below hbw
  have hrf1 := hrf.below hbw
  clear hH hb1 hr hrf HSz
  have hw1 := hbw.size
  go_loopw [9, 10] (fun v9 i wx => ∃ (k : Nat) (A9 : Option Addr) (c9 : Nat), k ≤ m ∧ i = .int .i64 k ∧ v9 = .slice A9 (placesL P C k).length c9 ∧ Hid (wx.ownsRow w1.heap.size 70 3 (.slice A9 (placesL P C k).length c9) (placesL P C k).length (plcells (placesL P C k))) ∧ Below w1.heap.size w1 wx) (fun _ i _ => m - (intOf i).toNat)
  case atStart => exact ⟨0, none, 0, Nat.zero_le _, rfl, rfl, own_nil0 _ _ _ _, Below.refl _ _⟩
  case round =>
    obtain ⟨k, A9, c9, hk, rfl, rfl, ho, hb⟩ := hrel
    obtain ⟨x0, x1, _, _, _⟩ := blk2 ((hb.block _ (heap_lt0 HH.out)).trans HH.out)
    by_cases hkm : k < m
    · have kI : (k : Int) < (m : Int) := by omega
      obtain ⟨fk, hfk⟩ : ∃ p, f[k]? = some p := ⟨f[k]'(by rw [HFL.out]; omega), by simp⟩
      obtain ⟨b, o, rfl, hbl, e0⟩ := hrf1.int k fk hfk
      have hfk2 := HFB.out fk (List.mem_of_getElem? hfk)
      have hpl0 := placesL_succ P C k
      rw [HPK.out k hkm, HCK.out k fk hfk] at hpl0
      simp only [Option.getD_some, Int.toNat_natCast] at hpl0
      have hdk := HDG.out k
      have HNk := HNr k
      have hlk := HLN.out (k + 1) (by omega)
      rw [hpl0] at hlk
      simp only [List.length_append, prt_length, cor_length] at hlk
      have kL : (k : Int) < (f.length : Int) := by rw [HFL.out]; exact kI
      generalize nearB m es (k : Int) = R at *
      obtain ⟨q, hq⟩ : ∃ q : Nat, q = (corE (R.length : Int) fk).toNat := ⟨_, rfl⟩
      rw [← hq] at hpl0 hlk
      have hq2 : (q : Int) = max ((R.length : Int) - fk) 0 := by rw [hq]; unfold corE; omega
      have hpl := Lib.hid hpl0
      clear hq hfk hpl0
      generalize placesL P C k = L at ho hpl hlk
      have q1 : IntKind.i64.wrap ((R.length : Int) - fk) = (R.length : Int) - fk := by rw [IntKind.wrap_i64]; omega
      go_upto_region 9 with (go_at_call 39; go_loud (refine (HNk _ (hr1.below hb)).mono ?_; rintro e w3 ⟨A3, c3, rfl, hc3, hr3, hb3⟩))
      have hb4 := hb.trans (hb3.mono hb.size)
      have ho4 : Hid (w3.ownsRow w1.heap.size 70 3 (.slice A9 L.length c9) L.length (plcells L)) := own_below0 ho.out hb3
      clear ho hb hb3 hr3 hc3 HNk x0 x1
      have ho := ho4
      have hb := hb4
      clear ho4 hb4
      clear HNr HPK HCK HLN HDG
      generalize R.length = pj at *
      go_upto_region 10 with fail
      (go_loopw [9, 12] (fun v9 i wx => ∃ (j : Nat) (A9 : Option Addr) (c9 : Nat), j ≤ pj ∧ i = .int .i64 j ∧ v9 = .slice A9 (L ++ prt k j).length c9 ∧ Hid (wx.ownsRow w1.heap.size 70 3 (.slice A9 (L ++ prt k j).length c9) (L ++ prt k j).length (plcells (L ++ prt k j))) ∧ Below w1.heap.size w1 wx) (fun _ i _ => pj - (intOf i).toNat)
       case atStart => exact ⟨0, A9, c9, Nat.zero_le _, rfl, by simp [prt], by simpa [prt] using ho, hb⟩
       case round =>
         clear ho hb
         obtain ⟨j, A9, c9, hj, rfl, rfl, ho, hb⟩ := hrel
         by_cases hjp : j < pj
         · have jI : (j : Int) < (pj : Int) := by omega
           have hS := Lib.hid (prt_succ k j)
           have hLL : (L ++ prt k j).length = (L).length + j := by rw [List.length_append, prt_length]
           have hLb : (L).length + j + 1 ≤ 70000 := by omega
           have hbs := hb.size
           have HLL := Lib.hid hLL
           clear hLL
           generalize hM : L ++ prt k j = M at ho HLL ⊢
           skip
           go_wp2_with (first
             | (at_builtin; go_loud (
                refine wpList_app EI_place rfl (.tmp 39) (.tmp 43) rfl w1.heap.size (.slice A9 M.length c9) M.length (plcells M) rfl ?_ (some ⟨_, 0, none⟩) 1 1 [.int .i64 k, .int .i64 j, .bool false] rfl ?_ rfl (one_plc _ _ _) ?_ ?_ ?_
                · exact own_below0 ho.out (by (repeat (first | with_reducible exact Below.refl _ _ | with_reducible assumption | with_reducible refine below_drewN0 ?_ _ | with_reducible refine Below.drew ?_ | with_reducible refine Below.alloc ?_ ?_ _ | with_reducible refine Below.setCell ?_ ?_ _ | go_size | exact Below.size (by assumption))))
                · exact reads_new _ [_, _, _] _
                · have := HLL.out; omega
                · go_size
                intro v5 w5 hown5 hg5 hat5
                have hb5 : Below w1.heap.size w1 w5 := below_app (by (repeat (first | with_reducible exact Below.refl _ _ | with_reducible assumption | with_reducible refine below_drewN0 ?_ _ | with_reducible refine Below.drew ?_ | with_reducible refine Below.alloc ?_ ?_ _ | with_reducible refine Below.setCell ?_ ?_ _ | go_size | exact Below.size (by assumption)))) hg5 (by go_size) (fun g hg => (own_lt0 ho.out g hg).1)
                obtain ⟨A5, c5, rfl, hc5, _⟩ := own_reads0 hown5)))
           go_roundw
           case rel =>
             have hMe : L ++ prt k (j + 1) = M ++ [((k : Int), (j : Int), false)] := by rw [hS.out, ← List.append_assoc, hM]
             have hMl : (L ++ prt k (j + 1)).length = M.length + 1 := by rw [hMe]; simp
             refine ⟨j + 1, A5, c5, by omega, by go_num, by rw [hMl], ?_, hb5⟩
             unfold Hid
             rw [hMl]
             refine own_cast hown5 (Nat.le_refl _) rfl ?_
             rw [hMe, plcells_append]
             rfl
           case measure => simp [intOf]; omega
         · obtain rfl : j = pj := by omega
           (obtain ⟨pj, rfl⟩ : ∃ pj : Nat, pj = j := ⟨_, rfl⟩
            have hpl2 : Hid (placesL P C (k + 1) = (L ++ prt k pj) ++ cor k q) := by unfold Hid; rw [hpl.out, List.append_assoc]
            have hq' : (L ++ prt k pj).length + q ≤ 65536 := by rw [List.length_append, prt_length]; omega
            clear hpl
            generalize hLL : L ++ prt k pj = L2 at *
            clear hLL hlk
            go_upto_region 14 with fail
            (go_loopw [9, 13] (fun v9 i wx => ∃ (j : Nat) (A9 : Option Addr) (c9 : Nat), j ≤ q ∧ i = .int .i64 j ∧ v9 = .slice A9 (L2 ++ cor k j).length c9 ∧ Hid (wx.ownsRow w1.heap.size 70 3 (.slice A9 (L2 ++ cor k j).length c9) (L2 ++ cor k j).length (plcells (L2 ++ cor k j))) ∧ Below w1.heap.size w1 wx) (fun _ i _ => q - (intOf i).toNat)
             case atStart => exact ⟨0, A9, c9, Nat.zero_le _, rfl, by simp [cor], by simpa [cor] using ho, hb⟩
             case round =>
               clear ho hb
               obtain ⟨j, A9, c9, hj, rfl, rfl, ho, hb⟩ := hrel
               by_cases hjp : j < q
               · have jI : (j : Int) < (q : Int) := by omega
                 have hS := Lib.hid (cor_succ k j)
                 have hLL : (L2 ++ cor k j).length = (L2).length + j := by rw [List.length_append, cor_length]
                 have hLb : (L2).length + j + 1 ≤ 70000 := by omega
                 have hbs := hb.size
                 have HLL := Lib.hid hLL
                 clear hLL
                 generalize hM : L2 ++ cor k j = M at ho HLL ⊢
                 (have e1 := (hb.cell (p := ⟨b, o + k, none⟩) hbl).trans e0; have d1 : (j : Int) < (pj : Int) - fk := by omega)
                 go_wp2_with (first
                   | (at_builtin; go_loud (
                      refine wpList_app EI_place rfl (.tmp 55) (.tmp 59) rfl w1.heap.size (.slice A9 M.length c9) M.length (plcells M) rfl ?_ (some ⟨_, 0, none⟩) 1 1 [.int .i64 k, .int .i64 j, .bool true] rfl ?_ rfl (one_plc _ _ _) ?_ ?_ ?_
                      · exact own_below0 ho.out (by (repeat (first | with_reducible exact Below.refl _ _ | with_reducible assumption | with_reducible refine below_drewN0 ?_ _ | with_reducible refine Below.drew ?_ | with_reducible refine Below.alloc ?_ ?_ _ | with_reducible refine Below.setCell ?_ ?_ _ | go_size | exact Below.size (by assumption))))
                      · exact reads_new _ [_, _, _] _
                      · have := HLL.out; omega
                      · go_size
                      intro v5 w5 hown5 hg5 hat5
                      have hb5 : Below w1.heap.size w1 w5 := below_app (by (repeat (first | with_reducible exact Below.refl _ _ | with_reducible assumption | with_reducible refine below_drewN0 ?_ _ | with_reducible refine Below.drew ?_ | with_reducible refine Below.alloc ?_ ?_ _ | with_reducible refine Below.setCell ?_ ?_ _ | go_size | exact Below.size (by assumption)))) hg5 (by go_size) (fun g hg => (own_lt0 ho.out g hg).1)
                      obtain ⟨A5, c5, rfl, hc5, _⟩ := own_reads0 hown5)))
                 go_roundw
                 case rel =>
                   have hMe : L2 ++ cor k (j + 1) = M ++ [((k : Int), (j : Int), true)] := by rw [hS.out, ← List.append_assoc, hM]
                   have hMl : (L2 ++ cor k (j + 1)).length = M.length + 1 := by rw [hMe]; simp
                   refine ⟨j + 1, A5, c5, by omega, by go_num, by rw [hMl], ?_, hb5⟩
                   unfold Hid
                   rw [hMl]
                   refine own_cast hown5 (Nat.le_refl _) rfl ?_
                   rw [hMe, plcells_append]
                   rfl
                 case measure => simp [intOf]; omega
               · obtain rfl : j = q := by omega
                 (have e1 := (hb.cell (p := ⟨b, o + k, none⟩) hbl).trans e0
                  have d1 : ¬ ((j : Int) < (pj : Int) - fk) := by omega
                  go_wp2_with fail
                  go_roundw
                  case rel => exact ⟨k + 1, A9, c9, by omega, by go_num, by rw [hpl2.out], by rw [hpl2.out]; exact ho, hb⟩
                  case measure => simp [intOf]; omega))))
    · obtain rfl : k = m := by omega
      go_wp2_with fail
      go_ret2
      exact ⟨_, rfl, own_cast ho.out hw1 rfl rfl, hbw.trans (hb.mono hw1)⟩
end Go.Proofs.Ytglhdoibglafbaa

/- The ports of a vertex are its neighbours: plain. -/
namespace Go.Proofs.Ytglhdoibglafbaa
open Go Go.RowKit
set_option maxRecDepth 100000
set_option linter.unusedVariables false

theorem bump_at (P : List Int) (a b v : Nat) (hab : a < b) (hb : b < P.length) (hv : v < P.length) (x : Int) (hx : P[v]? = some x) :
    (bump P ((a : Int), (b : Int)))[v]? = some (x + (if (a : Int) = v then 1 else 0) + (if (b : Int) = v then 1 else 0)) := by
  unfold bump
  simp only [Int.toNat_natCast]
  have ha : a < P.length := by omega
  by_cases h1 : b = v
  · subst h1
    have hne : ¬ ((a : Int) = (b : Int)) := by omega
    have hne' : a ≠ b := by omega
    simp [hb, hne, hne']
    exact (List.getElem?_eq_some_iff.1 hx).2
  · by_cases h2 : a = v
    · subst h2
      have hne : ¬ ((b : Int) = (a : Int)) := by omega
      simp [List.getElem?_set, ha, hne, h1]
      exact (List.getElem?_eq_some_iff.1 hx).2
    · have hne : ¬ ((b : Int) = (v : Int)) := by omega
      have hne2 : ¬ ((a : Int) = (v : Int)) := by omega
      simp [List.getElem?_set, hx, hne, hne2, h1, h2]

theorem ports_near (m : Nat) (es : List (Int × Int)) (hok : ∀ e ∈ es, 0 ≤ e.1 ∧ e.1 < e.2 ∧ e.2 < (m : Int)) (v : Nat) (hv : v < m) : (ports m es)[v]? = some ((nearL es (v : Int)).length : Int) := by
  suffices h : ∀ k, k ≤ es.length → (ports m (es.take k))[v]? = some ((nearL (es.take k) (v : Int)).length : Int) by
    have := h es.length (Nat.le_refl _)
    rwa [List.take_length] at this
  intro k
  induction k with
  | zero => intro _; simp [ports, nearL, lowL, highL, hv]
  | succ k ih =>
    intro hk
    have hx := ih (by omega)
    obtain ⟨⟨a, b⟩, he⟩ : ∃ e, es[k]? = some e := ⟨es[k], by simp⟩
    obtain ⟨o1, o2, o3⟩ := hok (a, b) (List.mem_of_getElem? he)
    rw [ports_take m es k _ he]
    simp only at o1 o2 o3
    obtain ⟨a', rfl⟩ : ∃ a' : Nat, a = a' := ⟨a.toNat, by omega⟩
    obtain ⟨b', rfl⟩ : ∃ b' : Nat, b = b' := ⟨b.toNat, by omega⟩
    rw [bump_at _ a' b' v (by omega) (by rw [ports_length]; omega) (by rw [ports_length]; exact hv) _ hx]
    congr 1
    unfold nearL
    rw [lowL_one es k _ _ he, highL_one es k _ _ he]
    simp only [List.length_append]
    split <;> split <;> simp <;> omega

theorem ports_deg (m : Nat) (es : List (Int × Int)) (hR : rightB m es = true) : ports m es = degL m es := by
  have hP := (right_iff _ _).1 hR
  apply List.ext_getElem?
  intro v
  by_cases hv : v < m
  · rw [ports_near m es hP.ok v hv, degL_get m es v hv, nearB_right hR]
  · rw [List.getElem?_eq_none (by rw [ports_length]; omega), List.getElem?_eq_none (by simp [degL]; omega)]
end Go.Proofs.Ytglhdoibglafbaa

/- Places of gadgets, both of them, in all cases. -/
namespace Go.Proofs.Ytglhdoibglafbaa
open Go Go.RowKit
set_option maxRecDepth 100000
set_option linter.unusedVariables false

theorem places_err (n d : Int) (es : List (Int × Int)) (f : List Int) (A Af : Option Addr) (c cf : Nat) (w : World) (hr : Reads w A (pcells es)) (hrf : Reads w Af (icells f)) (hd : d ≠ 0)
    (HN : ∀ W, Reads W A (pcells es) → Reads W Af (icells f) → Calls Try.prog 61 #[.agg #[.int .i64 n, .slice A es.length c], .slice Af f.length cf] W fun e w' => e = .returned (.tuple #[.pointer none, .int .i64 d]) ∧ Below W.heap.size W w') :
    Calls Try.prog 46 #[.agg #[.int .i64 n, .slice A es.length c], .slice Af f.length cf] w fun e w' => e = .returned (.tuple #[.slice none 0 0, .int .i64 d]) ∧ Below w.heap.size w w' := by
  have hd' : (d != 0) = true := by simpa using hd
  clear hd
  go_enter Try.func46, Try.ntmps46
  go_wp2_with (go_at_call 61; go_loud (refine (HN _ (hr.below ?_) (hrf.below ?_)).mono ?_; (repeat (first | with_reducible exact Below.refl _ _ | with_reducible assumption | with_reducible refine below_drewN0 ?_ _ | with_reducible refine Below.drew ?_ | with_reducible refine Below.alloc ?_ ?_ _ | with_reducible refine Below.setCell ?_ ?_ _ | go_size | exact Below.size (by assumption))); (repeat (first | with_reducible exact Below.refl _ _ | with_reducible assumption | with_reducible refine below_drewN0 ?_ _ | with_reducible refine Below.drew ?_ | with_reducible refine Below.alloc ?_ ?_ _ | with_reducible refine Below.setCell ?_ ?_ _ | go_size | exact Below.size (by assumption))); rintro e w1 ⟨rfl, hb1⟩; have hbw : Below w.heap.size w w1 := Below.trans (by (repeat (first | with_reducible exact Below.refl _ _ | with_reducible assumption | with_reducible refine below_drewN0 ?_ _ | with_reducible refine Below.drew ?_ | with_reducible refine Below.alloc ?_ ?_ _ | with_reducible refine Below.setCell ?_ ?_ _ | go_size | exact Below.size (by assumption)))) (hb1.mono (by simp))))
  go_ret2
  exact ⟨rfl, hbw⟩

theorem refPlaces_err (n d s1 s2 : Int) (es : List (Int × Int)) (f : List Int) (A Af : Option Addr) (c cf : Nat) (w : World) (hr : Reads w A (pcells es)) (hrf : Reads w Af (icells f)) (hd : d ≠ 0)
    (HN : ∀ W, Reads W A (pcells es) → Reads W Af (icells f) → Calls Try.prog 45 #[.agg #[.int .i64 n, .slice A es.length c], .slice Af f.length cf] W fun e w' => e = .returned (.tuple #[.int .i64 s1, .int .i64 s2, .int .i64 d]) ∧ Below W.heap.size W w') :
    Calls Try.prog 47 #[.agg #[.int .i64 n, .slice A es.length c], .slice Af f.length cf] w fun e w' => e = .returned (.tuple #[.slice none 0 0, .int .i64 d]) ∧ Below w.heap.size w w' := by
  have hd' : (d != 0) = true := by simpa using hd
  clear hd
  go_enter Try.func47, Try.ntmps47
  go_wp2_with (go_at_call 45; go_loud (refine (HN _ (hr.below ?_) (hrf.below ?_)).mono ?_; (repeat (first | with_reducible exact Below.refl _ _ | with_reducible assumption | with_reducible refine below_drewN0 ?_ _ | with_reducible refine Below.drew ?_ | with_reducible refine Below.alloc ?_ ?_ _ | with_reducible refine Below.setCell ?_ ?_ _ | go_size | exact Below.size (by assumption))); (repeat (first | with_reducible exact Below.refl _ _ | with_reducible assumption | with_reducible refine below_drewN0 ?_ _ | with_reducible refine Below.drew ?_ | with_reducible refine Below.alloc ?_ ?_ _ | with_reducible refine Below.setCell ?_ ?_ _ | go_size | exact Below.size (by assumption))); rintro e w1 ⟨rfl, hb1⟩; have hbw : Below w.heap.size w w1 := Below.trans (by (repeat (first | with_reducible exact Below.refl _ _ | with_reducible assumption | with_reducible refine below_drewN0 ?_ _ | with_reducible refine Below.drew ?_ | with_reducible refine Below.alloc ?_ ?_ _ | with_reducible refine Below.setCell ?_ ?_ _ | go_size | exact Below.size (by assumption)))) (hb1.mono (by simp))))
  go_ret2
  exact ⟨rfl, hbw⟩

theorem refSize_err (n d : Int) (es : List (Int × Int)) (f : List Int) (A Af : Option Addr) (c cf : Nat) (w : World) (hr : Reads w A (pcells es)) (hc : es.length ≤ c) (hm : es.length ≤ 100000)
    (hrf : Reads w Af (icells f)) (hcf : f.length ≤ cf) (hmf : f.length ≤ 4611686018427387903) (hde : degErr n es f ≠ 0) :
    Calls Try.prog 45 #[.agg #[.int .i64 n, .slice A es.length c], .slice Af f.length cf] w fun e w' => e = .returned (.tuple #[.int .i64 0, .int .i64 0, .int .i64 (degErr n es f)]) ∧ Below w.heap.size w w' := by
  have HR := fun W hR hF => refDegRight n es f A Af c cf W hR hc (by omega) hF hcf hmf
  rw [← degErr_ok] at HR
  generalize degErr n es f = d at *
  have hd' : (d != 0) = true := by simpa using hde
  clear hde
  go_enter Try.func45, Try.ntmps45
  go_wp2_with (go_at_call 75; go_loud (refine (HR _ (hr.below ?_) (hrf.below ?_)).mono ?_; (repeat (first | with_reducible exact Below.refl _ _ | with_reducible assumption | with_reducible refine below_drewN0 ?_ _ | with_reducible refine Below.drew ?_ | with_reducible refine Below.alloc ?_ ?_ _ | with_reducible refine Below.setCell ?_ ?_ _ | go_size | exact Below.size (by assumption))); (repeat (first | with_reducible exact Below.refl _ _ | with_reducible assumption | with_reducible refine below_drewN0 ?_ _ | with_reducible refine Below.drew ?_ | with_reducible refine Below.alloc ?_ ?_ _ | with_reducible refine Below.setCell ?_ ?_ _ | go_size | exact Below.size (by assumption))); rintro e w1 ⟨rfl, hb1⟩; have hbw : Below w.heap.size w w1 := Below.trans (by (repeat (first | with_reducible exact Below.refl _ _ | with_reducible assumption | with_reducible refine below_drewN0 ?_ _ | with_reducible refine Below.drew ?_ | with_reducible refine Below.alloc ?_ ?_ _ | with_reducible refine Below.setCell ?_ ?_ _ | go_size | exact Below.size (by assumption)))) (hb1.mono (by simp))))
  go_ret3
  exact ⟨rfl, hbw⟩
end Go.Proofs.Ytglhdoibglafbaa
