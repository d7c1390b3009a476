/- A forest's begin, and a vertex more (no program in sight). -/
import Derived.Test.YtgddfmfiiodgbaaU10
import Derived.Test.YtgddfmfiiodgbaaU05
import Derived.Laws.CopyRow
import Derived.Laws.Externs
import Derived.Lib.Overlaps
import Derived.Lib.AppendZerosOnto
import Derived.Lib.AppendZeros
namespace Go.Proofs.Ytgddfmfiiodgbaa
set_option linter.unusedVariables false
set_option linter.unusedSimpArgs false

def FoS.raise (S : FoS) (v : Nat) (e : Int) (l : Nat) : FoS :=
  { S with outer := upd S.outer v true, even := upd S.even v e, label := if S.label v = 0 then upd S.label v l else S.label, wait := S.wait ++ [v] }
/-- A vertex more, and its mate x. -/
def FoS.grow (S : FoS) (v w x : Nat) (o e : Int) : FoS :=
  FoS.raise { S with label := upd S.label w 2, pred := upd S.pred w v, root := upd (upd S.root w (S.root v)) x (S.root v), odd := upd S.odd w o } x e 1

section
variable {n : Nat} {E : Nat → Nat → Prop} {M : Nat → Option Nat} {S : FoS} {D : Nat → Nat}

theorem grow_label (v w x : Nat) (o e : Int) (hx : S.label x = 0) (hwx : x ≠ w) (u : Nat) : (S.grow v w x o e).label u = if u = x then 1 else if u = w then 2 else S.label u := by
  unfold FoS.grow FoS.raise
  simp [upd, hwx, hx]
theorem grow_outer (v w x : Nat) (o e : Int) (u : Nat) : (S.grow v w x o e).outer u = if u = x then true else S.outer u := rfl
theorem grow_pred (v w x : Nat) (o e : Int) (u : Nat) : (S.grow v w x o e).pred u = if u = w then v else S.pred u := rfl
theorem grow_root (v w x : Nat) (o e : Int) (u : Nat) : (S.grow v w x o e).root u = if u = x then S.root v else if u = w then S.root v else S.root u := rfl
theorem grow_bs (v w x : Nat) (o e : Int) (u : Nat) : (S.grow v w x o e).bs u = S.bs u := rfl
theorem grow_cls (v w x : Nat) (o e : Int) (u : Nat) : (S.grow v w x o e).cls u = S.cls u := rfl
theorem grow_bridge (v w x : Nat) (o e : Int) (u : Nat) : (S.grow v w x o e).bridge u = S.bridge u := rfl

theorem FInv.grow_stays (hM : IsMat n E M) (h : FInv n E M S D) {v w x : Nat} (o e : Int) (hw : w < n) (h0 : S.label w = 0) (hm : M w = some x) (hx0 : S.label x = 0) (hwx : x ≠ w) : Stays M S (S.grow v w x o e) := by
  have hxn := hM.lt (hM.symm hm)
  have ox := h.zero x hxn hx0
  have ow := h.zero w hw h0
  refine ⟨fun u hu => ?_, fun u hu => ?_, fun u hu _ => rfl, fun u m hu hl hum => ?_⟩
  · rw [grow_outer]; split
    · rfl
    · exact hu
  · rw [grow_label _ _ _ _ _ hx0 hwx]
    rw [if_neg (fun e => by rw [e, ox] at hu; cases hu), if_neg (fun e => by rw [e, ow] at hu; cases hu)]
  · rw [grow_pred, if_neg]
    rintro rfl
    rw [hM.symm hum] at hm
    cases hm
    rw [ox] at hu
    cases hu

theorem FInv.grow (hg : IsGr n E) (hM : IsMat n E M) (h : FInv n E M S D) {v w x : Nat} (o e : Int) (hv : v < n) (ho : S.outer v = true) (hw : w < n) (hE : E v w) (h0 : S.label w = 0) (hm : M w = some x) :
    FInv n E M (S.grow v w x o e) (upd D x (D (S.bs v) + 1)) := by
  have hxn := hM.lt (hM.symm hm)
  have hx0 := h.mate0 hM hw h0 hm
  have hwx : x ≠ w := fun e => hg.irr w (hM.edge (e ▸ hm))
  have ox := h.zero x hxn hx0
  have ow := h.zero w hw h0
  have hvx : v ≠ x := fun e => by rw [e, ox] at ho; cases ho
  have hvw : v ≠ w := fun e => by rw [e, ow] at ho; cases ho
  have hst := h.grow_stays hM (v := v) o e hw h0 hm hx0 hwx
  have L := grow_label (S := S) v w x o e hx0 hwx
  have hMx : M x = some w := hM.symm hm
  refine ⟨?_, ?_, ?_, ?_, ?_, ?_, ?_, ?_, ?_, ?_, ?_⟩
  · intro u hu
    rw [L]
    split
    · omega
    · split
      · omega
      · exact h.lab u hu
  · intro u hu hl
    rw [L] at hl
    rw [grow_outer]
    split at hl
    · cases hl
    · rename_i hne
      rw [if_neg hne]
      split at hl
      · cases hl
      · exact h.zero u hu hl
  · intro u hu hf
    have hux : u ≠ x := fun e => by rw [e, hMx] at hf; cases hf
    have huw : u ≠ w := fun e => by rw [e, hm] at hf; cases hf
    rw [L, if_neg hux, if_neg huw, grow_root, if_neg hux, if_neg huw]
    exact h.free u hu hf
  · intro u hu hl
    rw [L] at hl
    rw [grow_outer]
    by_cases hux : u = x
    · subst hux
      rw [if_pos rfl]
      refine ⟨rfl, fun m hum => ?_⟩
      rw [hMx] at hum
      cases hum
      rw [L, if_neg (Ne.symm hwx), if_pos rfl]
    · rw [if_neg hux] at hl ⊢
      by_cases huw : u = w
      · rw [if_pos huw] at hl; cases hl
      · rw [if_neg huw] at hl
        obtain ⟨g1, g2⟩ := h.one u hu hl
        refine ⟨g1, fun m hum => ?_⟩
        have := g2 m hum
        rw [L, if_neg (fun e => by rw [e] at this; omega), if_neg (fun e => by rw [e] at this; omega)]
        exact this
  · intro u hu hl
    rw [L] at hl
    by_cases hux : u = x
    · rw [if_pos hux] at hl; cases hl
    · rw [if_neg hux] at hl
      by_cases huw : u = w
      · subst huw
        refine ⟨x, hm, ?_, ?_, ?_, ?_, ?_⟩
        · rw [L, if_pos rfl]
        · rw [grow_pred, if_pos rfl, grow_outer, if_neg hvx]; exact ho
        · rw [grow_pred, if_pos rfl]; exact hE
        · rw [grow_root, grow_root, if_neg hux, if_pos rfl, if_pos rfl]
        · rw [grow_pred, if_pos rfl, grow_root, grow_root, if_neg hux, if_pos rfl, if_neg hvx, if_neg hvw]
      · rw [if_neg huw] at hl
        obtain ⟨y, g1, g2, g3, g4, g5, g6⟩ := h.two u hu hl
        have hyx : y ≠ x := fun e => by rw [e, hx0] at g2; cases g2
        have hyw : y ≠ w := fun e => by rw [e, h0] at g2; cases g2
        have hpx : S.pred u ≠ x := fun e => by rw [e, ox] at g3; cases g3
        have hpw : S.pred u ≠ w := fun e => by rw [e, ow] at g3; cases g3
        refine ⟨y, g1, ?_, ?_, ?_, ?_, ?_⟩
        · rw [L, if_neg hyx, if_neg hyw]; exact g2
        · rw [grow_pred, if_neg huw, grow_outer, if_neg hpx]; exact g3
        · rw [grow_pred, if_neg huw]; exact g4
        · rw [grow_root, grow_root, if_neg hux, if_neg huw, if_neg hyx, if_neg hyw]; exact g5
        · rw [grow_pred, if_neg huw, grow_root, grow_root, if_neg hux, if_neg huw, if_neg hpx, if_neg hpw]; exact g6
  · intro u hu hof
    rw [grow_outer] at hof
    split at hof
    · cases hof
    · exact h.sing u hu hof
  · intro u hu huo
    rw [grow_outer] at huo
    by_cases hux : u = x
    · subst hux
      have hs := (h.sing u hu ox).1
      simp only [grow_bs]
      rw [hs]
      refine ⟨hu, ?_, ?_, rfl, hs⟩
      · rw [grow_outer, if_pos rfl]
      · rw [L, if_pos rfl]
    · rw [if_neg hux] at huo
      obtain ⟨g1, g2, g3, g4, g5⟩ := h.bsout u hu huo
      have hbx : S.bs u ≠ x := fun e => by rw [e, ox] at g2; cases g2
      have hbw : S.bs u ≠ w := fun e => by rw [e, ow] at g2; cases g2
      have huw : u ≠ w := fun e => by rw [e, ow] at huo; cases huo
      simp only [grow_bs]
      refine ⟨g1, ?_, ?_, ?_, g5⟩
      · rw [grow_outer, if_neg hbx]; exact g2
      · rw [L, if_neg hbx, if_neg hbw]; exact g3
      · rw [grow_root, grow_root, if_neg hbx, if_neg hbw, if_neg hux, if_neg huw]; exact g4
  · exact h.inj
  · intro y m hy hyo hyb hym
    simp only [grow_bs] at hyb ⊢
    rw [grow_outer] at hyo
    by_cases hyx : y = x
    · subst hyx
      rw [hMx] at hym
      cases hym
      rw [grow_outer, if_neg (Ne.symm hwx), grow_pred, if_pos rfl]
      refine ⟨ow, ?_⟩
      have hbx : S.bs v ≠ y := fun e => by
        have := (h.bsout v hv ho).2.1
        rw [e, ox] at this; cases this
      rw [upd_same, upd_ne _ _ hbx]
      omega
    · rw [if_neg hyx] at hyo
      obtain ⟨g1, g2, g3, g4, g5, g6, g7, g8, g9⟩ := h.up hg hM hy hyo hyb hym
      have hmx : m ≠ x := fun e => by rw [e, hx0] at g3; cases g3
      have hmw : m ≠ w := fun e => by rw [e, h0] at g3; cases g3
      rw [grow_outer, if_neg hmx, grow_pred, if_neg hmw]
      have hbx : S.bs (S.pred m) ≠ x := fun e => by
        have := (h.bsout _ g5 g4).2.1
        rw [e, ox] at this; cases this
      rw [upd_ne _ _ hbx, upd_ne _ _ hyx]
      exact ⟨g2, g9⟩
  · intro y hy hyo hyb
    simp only [grow_bs] at hyb ⊢
    rw [grow_outer] at hyo
    by_cases hyx : y = x
    · subst hyx
      exact absurd (h.sing y hy ox).1 hyb
    · rw [if_neg hyx] at hyo
      obtain ⟨m, g1, g2, g3⟩ := h.inm y hy hyo hyb
      refine ⟨m, g1, ?_, g3⟩
      rw [grow_outer]; split
      · rfl
      · exact g2
  · intro u hu huo
    rw [grow_outer] at huo
    simp only [grow_bs]
    by_cases hux : u = x
    · subst hux
      have hs := (h.sing u hu ox).1
      rw [hs]
      refine ⟨[u], .stop u, .nil u, by simp, fun y hy => ?_⟩
      simp at hy
      subst hy
      exact ⟨hu, by rw [grow_outer, if_pos rfl], hs⟩
    · rw [if_neg hux] at huo
      obtain ⟨q, q1, q2, q3, q4⟩ := h.way u hu huo
      refine ⟨q, q1.stays hst, q2, q3, fun y hy => ?_⟩
      obtain ⟨g1, g2, g3⟩ := q4 y hy
      exact ⟨g1, hst.outer y g2, g3⟩

/-- The begin: all vertices without mates are roots. -/
theorem FInv.begin (hM : IsMat n E M) (S : FoS) (hl : ∀ v, v < n → S.label v = if M v = none then 1 else 0) (ho : ∀ v, v < n → S.outer v = decide (M v = none)) (hr : ∀ v, v < n → S.root v = if M v = none then some v else none)
    (hc : ∀ v, v < n → S.cls v = v) (hb : ∀ v, v < n → S.base v = v) : FInv n E M S (fun _ => 0) := by
  have hbs : ∀ v, v < n → S.bs v = v := fun v hv => by unfold FoS.bs; rw [hc v hv, hb v hv]
  have hout : ∀ v, v < n → S.outer v = true → M v = none := fun v hv h => by rw [ho v hv] at h; simpa using h
  refine ⟨?_, ?_, ?_, ?_, ?_, ?_, ?_, ?_, ?_, ?_, ?_⟩
  · intro v hv; rw [hl v hv]; split <;> omega
  · intro v hv h
    rw [hl v hv] at h
    rw [ho v hv]
    split at h
    · cases h
    · simpa
  · intro v hv h
    rw [hl v hv, hr v hv, if_pos h, if_pos h]
    exact ⟨rfl, rfl, hbs v hv⟩
  · intro v hv h
    rw [hl v hv] at h
    rw [ho v hv]
    split at h
    · rename_i hm
      exact ⟨by simp [hm], fun m hm' => by rw [hm] at hm'; cases hm'⟩
    · cases h
  · intro v hv h
    rw [hl v hv] at h
    split at h <;> cases h
  · intro v hv h
    exact ⟨hbs v hv, fun u hu he => by rwa [hbs u hu] at he⟩
  · intro u hu h
    have hf := hout u hu h
    rw [hbs u hu]
    exact ⟨hu, h, by rw [hl u hu, if_pos hf], rfl, hbs u hu⟩
  · intro u u' hu hu' h
    rw [hbs u hu, hbs u' hu'] at h
    rw [h]
  · intro x m hx hxo _ hm
    rw [hout x hx hxo] at hm
    cases hm
  · intro x hx hxo h
    exact absurd (hbs x hx) h
  · intro v hv h
    rw [hbs v hv]
    exact ⟨[v], .stop v, .nil v, by simp, fun y hy => by simp at hy; subst hy; exact ⟨hv, h, hbs y hv⟩⟩
end
end Go.Proofs.Ytgddfmfiiodgbaa

/- copy and clear on a row known whole, at elements of several cells; an own row taken apart and put together (no program in sight). -/
namespace Go.Proofs.Ytgddfmfiiodgbaa
open Go Go.RowKit
set_option maxRecDepth 100000
set_option linter.unusedVariables false
set_option linter.unusedSimpArgs false

section
variable {P : Program} {t e : TypeId} {z : Value} {size bytes : Nat}

theorem run_copyN (E : EI P t e z size bytes) (w : World) (ty : TypeId) (g o dLen dCap : Nat) (a : Addr) (sLen sCap : Nat) (cur : List Value) (T : TypeId) (cs : List Value) (k : Nat) (hk : k = Nat.min sLen dLen) (hcs : cs.length = k * size)
    (hg : w.heap[g]? = some (.cells cur.toArray T (0, 0))) (hsrc : ∀ j v, cs[j]? = some v → w.cell? (a.add j) = some v) (hfit : o + cs.length ≤ cur.length) (h1 : ∀ v ∈ cs, v.oneCell' = true) :
    (Builtin.copy_ #[t, t] ty #[.slice (some ⟨g, o, none⟩) dLen dCap, .slice (some a) sLen sCap]).run P w =
      .ok (goInt k) (w.setRow g (cur.take o ++ cs ++ cur.drop (o + cs.length)).toArray) := by
  obtain ⟨i, hi, hz, hsize, hbytes⟩ := info_parts E.hinfo
  have hl := run_loadCells_list (P := P) w a cs hsrc
  have hst := run_storeCells_at P g o T cs 0 cur.toArray w hg (by simpa using hfit) h1
  simp only [Nat.add_zero] at hst
  simp [Builtin.copy_, run_underlying E.ht, Builtin.lenOf, Builtin.firstCells, sizeOf, typeInfo, hi, hsize, ← hk, ← hcs, hl, hst]

theorem wpList_copyN (E : EI P t e z size bytes) {w : World} {ops : Array Oper} {rest : List Oper} {o : Oper} {a : Act} {Q : Exit → Act → World → Prop} (hgd : o.guard = none) (s x : Operand)
    (ho : o.op = .call { callee := .builtin .copy, args := #[s, x], argTypes := #[t, t] })
    (g off dLen dCap : Nat) (ad : Addr) (sLen sCap : Nat) (hs : a.eval s = .slice (some ⟨g, off, none⟩) dLen dCap) (hx : a.eval x = .slice (some ad) sLen sCap) (cur : List Value) (T : TypeId) (cs : List Value) (k : Nat) (hk : k = Nat.min sLen dLen) (hcs : cs.length = k * size)
    (hg : w.heap[g]? = some (.cells cur.toArray T (0, 0))) (hsrc : ∀ j v, cs[j]? = some v → w.cell? (ad.add j) = some v) (hfit : off + cs.length ≤ cur.length) (h1 : ∀ v ∈ cs, v.oneCell' = true)
    (h : ∀ w', w'.heap[g]? = some (.cells (cur.take off ++ cs ++ cur.drop (off + cs.length)).toArray T (0, 0)) → w.grownBy w' (some g) → wpList P ops Q rest (a.put o.dst (goInt k)) w') : wpList P ops Q (o :: rest) a w :=
  wpList_plain hgd fun _ hK => by
    have hrun := run_copyN E w o.type g off dLen dCap ad sLen sCap cur T cs k hk hcs hg hsrc hfit h1
    unfold Oper.wp execOp
    simp only [ho, resolve, invoke, builtin, Sem.run_bind, Sem.run_pure, Result.andThen_ok, List.map_toArray, List.map_cons, List.map_nil, hs, hx, hrun]
    exact hK _ _ (h _ (setRow_heap w g cur.toArray _ T _ hg) ⟨rfl, rfl, rfl, by simp [World.setRow], fun k hk hne => setRow_other w g k _ (fun e => hne (by simp [e]))⟩)

theorem step_copyN (E : EI P t e z size bytes) {w : World} {ops : Array Oper} {o : Oper} {a : Act} {K : Act → World → Prop} {Q : Exit → Act → World → Prop} {F : Prop} (hgd : o.guard = none) (s x : Operand)
    (ho : o.op = .call { callee := .builtin .copy, args := #[s, x], argTypes := #[t, t] })
    (g off dLen dCap : Nat) (ad : Addr) (sLen sCap : Nat) (hs : a.eval s = .slice (some ⟨g, off, none⟩) dLen dCap) (hx : a.eval x = .slice (some ad) sLen sCap) (cur : List Value) (T : TypeId) (cs : List Value) (k : Nat) (hk : k = Nat.min sLen dLen) (hcs : cs.length = k * size)
    (hg : w.heap[g]? = some (.cells cur.toArray T (0, 0))) (hsrc : ∀ j v, cs[j]? = some v → w.cell? (ad.add j) = some v) (hfit : off + cs.length ≤ cur.length) (h1 : ∀ v ∈ cs, v.oneCell' = true)
    (h : ∀ w', w'.heap[g]? = some (.cells (cur.take off ++ cs ++ cur.drop (off + cs.length)).toArray T (0, 0)) → w.grownBy w' (some g) → K (a.put o.dst (goInt k)) w') :
    if Region.wanted o (yielded ops a.tmps) = true then Oper.wp P o a w K Q else F := by
  have hw : Region.wanted o (yielded ops a.tmps) = true := by simp [Region.wanted, hgd]
  rw [if_pos hw]
  have hrun := run_copyN E w o.type g off dLen dCap ad sLen sCap cur T cs k hk hcs hg hsrc hfit h1
  unfold Oper.wp execOp
  simp only [ho, resolve, invoke, builtin, Sem.run_bind, Sem.run_pure, Result.andThen_ok, List.map_toArray, List.map_cons, List.map_nil, hs, hx, hrun]
  exact h _ (setRow_heap w g cur.toArray _ T _ hg) ⟨rfl, rfl, rfl, by simp [World.setRow], fun k hk hne => setRow_other w g k _ (fun e => hne (by simp [e]))⟩

theorem step_room (E : EI P t e z size bytes) {w : World} {ops : Array Oper} {o : Oper} {a : Act} {K : Act → World → Prop} {Q : Exit → Act → World → Prop} {F : Prop} (hgd : o.guard = none) (s x : Operand)
    (ho : o.op = .call { callee := .builtin .append, args := #[s, x], argTypes := #[t, t] })
    (g : Nat) (cur : List Value) (n cap : Nat) (hs : a.eval s = .slice (some ⟨g, 0, none⟩) n cap) (hg : w.heap[g]? = some (.cells cur.toArray e (0, 0))) (hcap : cur.length = cap * size)
    (A : Option Addr) (m c : Nat) (news : List Value) (hx : a.eval x = .slice A m c) (hr : Reads w A news) (hl : news.length = m * size) (h1 : ∀ u ∈ news, u.oneCell' = true) (hroom : n + m ≤ cap)
    (h : ∀ w', w'.heap[g]? = some (.cells (cur.take (n * size) ++ news ++ cur.drop ((n + m) * size)).toArray e (0, 0)) → w.grownBy w' (some g) → K (a.put o.dst (.slice (some ⟨g, 0, none⟩) (n + m) cap)) w') :
    if Region.wanted o (yielded ops a.tmps) = true then Oper.wp P o a w K Q else F := by
  have hw : Region.wanted o (yielded ops a.tmps) = true := by simp [Region.wanted, hgd]
  rw [if_pos hw]
  obtain ⟨w', hrun, h2, h3⟩ := run_room E w o.type g cur n cap hg hcap A m c news hr hl h1 hroom
  unfold Oper.wp execOp
  simp only [ho, resolve, invoke, builtin, Sem.run_bind, Sem.run_pure, Result.andThen_ok, List.map_toArray, List.map_cons, List.map_nil, hs, hx, hrun]
  exact h w' h2 h3
end

/-- An own row that is not empty, taken apart. -/
theorem own_open {w : World} {base e size : Nat} {v : Value} {n : Nat} {xs : List Value} (h : w.ownsRow base e size v n xs) (hn : 0 < n) :
    ∃ (g c : Nat) (cur : List Value), v = .slice (some ⟨g, 0, none⟩) n c ∧ base ≤ g ∧ g < w.heap.size ∧ w.heap[g]? = some (.cells cur.toArray e (0, 0)) ∧ n ≤ c ∧ c ≤ maxLen ∧ cur.length = c * size ∧ cur.take (n * size) = xs := by
  obtain ⟨h0, h2⟩ := h
  rcases h2 with ⟨rfl, rfl⟩ | ⟨g, cap, cur, rfl, hg, hh, hnc, hm, hsz, htk⟩
  · omega
  · refine ⟨g, cap, cur.toList, rfl, hg, ?_, by simpa using hh, hnc, hm, by simpa using hsz, htk⟩
    rcases Nat.lt_or_ge g w.heap.size with hl | hl
    · exact hl
    · rw [Array.getElem?_eq_none hl] at hh; cases hh
/-- .. and put together. -/
theorem own_shut {w : World} {base e size g n c : Nat} {cur xs : List Value} (hb : base ≤ g) (hg : w.heap[g]? = some (.cells cur.toArray e (0, 0))) (hnc : n ≤ c) (hm : c ≤ maxLen) (hl : cur.length = c * size) (hx : cur.take (n * size) = xs) :
    w.ownsRow base e size (.slice (some ⟨g, 0, none⟩) n c) n xs := by
  refine ⟨?_, .inr ⟨g, c, cur.toArray, rfl, hb, hg, hnc, hm, by simpa using hl, by simpa using hx⟩⟩
  have : n * size ≤ c * size := Nat.mul_le_mul_right _ hnc
  rw [← hx, List.length_take]
  omega
end Go.Proofs.Ytgddfmfiiodgbaa
