/- append onto a row known whole that has room (no program in sight). -/
import Derived.Deep.DeepAppendRoom
import Derived.Test.YtglhdoibglafbaaB2
namespace Go.Proofs.Ytglhdoibglafbaa
open Go Go.RowKit
set_option maxRecDepth 100000
set_option linter.unusedVariables false

section
variable {P : Program} {t e : TypeId} {z : Value} {size bytes : Nat}

theorem run_room (E : EI P t e z size bytes) (w : World) (ty : TypeId) (g : Nat) (cur : List Value) (n cap : Nat) (hg : w.heap[g]? = some (.cells cur.toArray e (0, 0))) (hcap : cur.length = cap * size)
    (A : Option Addr) (m c : Nat) (news : List Value) (hr : Reads w A news) (hl : news.length = m * size) (h1 : ∀ u ∈ news, u.oneCell' = true) (hroom : n + m ≤ cap) :
    ∃ w', (Builtin.append_ #[t, t] ty #[.slice (some ⟨g, 0, none⟩) n cap, .slice A m c]).run P w = .ok (.slice (some ⟨g, 0, none⟩) (n + m) cap) w' ∧
      w'.heap[g]? = some (.cells (cur.take (n * size) ++ news ++ cur.drop ((n + m) * size)).toArray e (0, 0)) ∧ w.grownBy w' (some g) := by
  obtain ⟨i, hi, hz, hsize, hbytes⟩ := info_parts E.hinfo
  cases A with
  | none =>
    have h0 : news = [] := by
      rcases hr with h | ⟨b, o, h, _⟩
      · exact h
      · cases h
    subst h0
    have hm : m = 0 := by
      have := E.hsz
      rcases Nat.mul_eq_zero.1 (show m * size = 0 by simpa using hl.symm) with h | h <;> omega
    subst hm
    refine ⟨w, ?_, by simpa using hg, World.grownBy.refl w _⟩
    simp [Builtin.append_, run_underlying E.ht, sizeOf, typeInfo, hi, Builtin.lenOf, Builtin.firstCells, show n ≤ cap from hroom, storeCells]
  | some ad =>
    have hc : ∀ j u, news[j]? = some u → w.cell? (ad.add j) = some u := by
      intro j u hu
      rcases hr with h | ⟨b, o, h, _, hc⟩
      · subst h; simp at hu
      · injection h with h
        subst h
        have : (⟨b, o, none⟩ : Addr).add j = ⟨b, o + j, none⟩ := by unfold Addr.add; split <;> simp_all
        rw [this]
        exact hc j u hu
    subst hsize
    have hfit : n * i.size + news.length ≤ cur.toArray.size := by
      rw [hl, List.size_toArray, hcap, ← Nat.add_mul]; exact Nat.mul_le_mul_right _ hroom
    have hrun := run_append_room (P := P) w t ty e i E.ht hi g n cap cur.toArray hg ad m c news hl hc h1 hroom hfit
    refine ⟨_, hrun, ?_, ⟨rfl, rfl, rfl, by simp, fun k _ hk => setRow_other w g k _ (fun e => hk (by simp [e]))⟩⟩
    rw [setRow_heap w g cur.toArray _ e _ hg]
    simp only [hl, Nat.add_mul]

theorem wpList_room (E : EI P t e z size bytes) {w : World} {ops : Array Oper} {rest : List Oper} {o : Oper} {a : Act} {Q : Exit → Act → World → Prop} (hgd : o.guard = none) (s x : Operand)
    (ho : o.op = .call { callee := .builtin .append, args := #[s, x], argTypes := #[t, t] })
    (g : Nat) (cur : List Value) (n cap : Nat) (hs : a.eval s = .slice (some ⟨g, 0, none⟩) n cap) (hg : w.heap[g]? = some (.cells cur.toArray e (0, 0))) (hcap : cur.length = cap * size)
    (A : Option Addr) (m c : Nat) (news : List Value) (hx : a.eval x = .slice A m c) (hr : Reads w A news) (hl : news.length = m * size) (h1 : ∀ u ∈ news, u.oneCell' = true) (hroom : n + m ≤ cap)
    (h : ∀ w', w'.heap[g]? = some (.cells (cur.take (n * size) ++ news ++ cur.drop ((n + m) * size)).toArray e (0, 0)) → w.grownBy w' (some g) → wpList P ops Q rest (a.put o.dst (.slice (some ⟨g, 0, none⟩) (n + m) cap)) w') : wpList P ops Q (o :: rest) a w :=
  wpList_plain hgd fun _ hK => by
    obtain ⟨w', hrun, h2, h3⟩ := run_room E w o.type g cur n cap hg hcap A m c news hr hl h1 hroom
    unfold Oper.wp execOp
    simp only [ho, resolve, invoke, builtin, Sem.run_bind, Sem.run_pure, Result.andThen_ok, List.map_toArray, List.map_cons, List.map_nil, hs, hx, hrun]
    exact hK _ _ (h w' h2 h3)
end

theorem madeI (n : Nat) : madeCells #[.int .i64 0] n = (icells (List.replicate n 0)).toArray := made_zero n
theorem pcells_replicate (n : Nat) (a b : Int) : ∀ j, (pcells (List.replicate n (a, b)))[j]? = if j < n * 2 then some (.int .i64 (if j % 2 = 0 then a else b)) else none := by
  induction n with
  | zero => intro j; simp [pcells]
  | succ n ih =>
    intro j
    rw [List.replicate_succ]
    match j with
    | 0 => simp [pcells]
    | 1 => simp [pcells]; omega
    | j + 2 =>
      have := ih j
      simp only [pcells, List.flatMap_cons, List.cons_append, List.nil_append, List.getElem?_cons_succ] at this ⊢
      rw [this]
      have e1 : (j + 2) % 2 = j % 2 := by omega
      rw [e1]
      by_cases h : j < n * 2
      · have h2 : j + 2 < (n + 1) * 2 := by omega
        simp only [h, h2, if_true]
      · have h2 : ¬ j + 2 < (n + 1) * 2 := by omega
        simp only [h, h2, if_false]
theorem madeP (n : Nat) : madeCells #[.int .i64 0, .int .i64 0] (n * 2) = (pcells (List.replicate n (0, 0))).toArray := by
  apply Array.ext
  · simp [madeCells, pcells_length]; omega
  · intro i h1 h2
    have h3 : i < n * 2 := by simpa [madeCells] using h1
    have := pcells_replicate n 0 0 i
    rw [if_pos h3] at this
    simp only [ite_self] at this
    have h4 := (List.getElem?_eq_some_iff.1 this).2
    simp only [List.getElem_toArray, h4]
    rcases Nat.mod_two_eq_zero_or_one i with h | h <;> simp [madeCells, h]
theorem pcells_nil_replicate0 : pcells [] = [] := rfl
theorem pcells_drop0 (l : List (Int × Int)) (k : Nat) : (pcells l).drop (k * 2) = pcells (l.drop k) := (pcells_drop l k).symm
theorem icells_drop (l : List Int) (k : Nat) : (icells l).drop k = icells (l.drop k) := by simp [icells, List.map_drop]
theorem icells_set (l : List Int) (k : Nat) (x : Int) : (icells l).set k (.int .i64 x) = icells (l.set k x) := by simp [icells, List.map_set]
end Go.Proofs.Ytglhdoibglafbaa
