/- Walks of a forest's raise, Next: the vertices that wait. -/
import Derived.Test.YtgddfmfiiodgbaaU10
import Derived.Test.YtgddfmfiiodgbaaU11
namespace Go.Proofs.Ytgddfmfiiodgbaa
open Go Go.RowKit
set_option maxRecDepth 100000
set_option linter.unusedVariables false
set_option linter.unusedSimpArgs false

/-- Another layout, but for what waits the same. -/
def FLay.wt (L : FLay) (a : Option Nat) (o c : Nat) : FLay := { L with wA := a, wo := o, wc := c }

theorem run_wait {P : Program} {t : TypeId} (E : EI P t 3 (.int .i64 0) 1 8) (w : World) (ty : TypeId) (L : FLay) (l : List Nat) (h : WaitAt w L l) (hl : l.length ≤ 4000000) (v : Nat) (A : Option Addr) (hA : A = some ⟨w.heap.size - 1, 0, none⟩) (hc : w.cell? ⟨w.heap.size - 1, 0, none⟩ = some (.int .i64 (v : Int))) :
    ∃ a o c w', (Builtin.append_ #[t, t] ty #[L.wv l.length, .slice A 1 1]).run P w = .ok ((L.wt a o c).wv (l ++ [v]).length) w' ∧ WaitAt w' (L.wt a o c) (l ++ [v]) ∧ w.grownBy w' L.wA ∧ (a = L.wA ∨ ∃ g, a = some g ∧ w.heap.size ≤ g) := by
  subst hA
  obtain ⟨i, hi, hz, hsize, hbytes⟩ := info_parts E.hinfo
  have hlen : (l ++ [v]).length = l.length + 1 := by simp
  have hnews : ∀ j u, ([Value.int .i64 (v : Int)] : List Value)[j]? = some u → w.cell? ((⟨w.heap.size - 1, 0, none⟩ : Addr).add j) = some u := by
    intro j u hu
    cases j with
    | zero => simp at hu; subst hu; simpa [Addr.add] using hc
    | succ j => simp at hu
  have fromOwn : ∀ (v' : Value) (w' : World), w'.ownsRow w.heap.size 3 1 v' (l.length + 1) (icells ((l ++ [v]).map fun (x : Nat) => (x : Int))) → ∃ a o c, v' = (L.wt a o c).wv (l ++ [v]).length ∧ WaitAt w' (L.wt a o c) (l ++ [v]) ∧ (a = L.wA ∨ ∃ g, a = some g ∧ w.heap.size ≤ g) := by
    intro v' w' ho
    obtain ⟨g, c, cur, rfl, hg, _, hh, hnc, hcm, hcl, htk⟩ := own_open ho (by omega)
    refine ⟨some g, 0, c, by rw [hlen]; rfl, .inr ⟨g, cur, rfl, hh, by show 0 + c ≤ _; omega, by rw [hlen]; exact hnc, ?_, hcm⟩, .inr ⟨g, rfl, hg⟩⟩
    show (cur.drop 0).take _ = _
    rw [hlen, List.drop_zero]
    simpa using htk
  rcases h with ⟨rfl, h1, h2, h3⟩ | ⟨g, cur, h1, h2, h3, h4, h5, h6⟩
  · have hv : L.wv ([] : List Nat).length = .slice none 0 0 := by unfold FLay.wv; rw [h1, h3]; rfl
    obtain ⟨v', w', hrun, ho, hg, _⟩ := run_app E w ty w.heap.size (.slice none 0 0) 0 [] (own_nil0 _ _ _ _) (some ⟨w.heap.size - 1, 0, none⟩) 1 1 [.int .i64 (v : Int)]
      (.inr ⟨w.heap.size - 1, 0, rfl, by
        rcases Nat.lt_or_ge (w.heap.size - 1) w.heap.size with h' | h'
        · exact h'
        · have h0 : w.heap[w.heap.size - 1]? = none := Array.getElem?_eq_none h'
          simp [World.cell?, h0] at hc, fun j u hu => by
        have := hnews j u hu
        have e : (⟨w.heap.size - 1, 0, none⟩ : Addr).add j = ⟨w.heap.size - 1, 0 + j, none⟩ := by unfold Addr.add; split <;> simp_all
        rw [e] at this
        exact this⟩) rfl (by simp [Value.oneCell']) (by omega) (Nat.le_refl _)
    obtain ⟨a, o, c, e1, e2, e3⟩ := fromOwn v' w' ho
    exact ⟨a, o, c, w', by rw [hv, hrun, e1], e2, by rw [h1]; exact hg, e3⟩
  · have hv : L.wv l.length = .slice (some ⟨g, L.wo, none⟩) l.length L.wc := by unfold FLay.wv; rw [h1]; rfl
    have hol : (icells (l.map fun (x : Nat) => (x : Int))).length = l.length := by simp [icells]
    by_cases hr : l.length + 1 ≤ L.wc
    · have hrun := run_append_room_cells (P := P) w t ty 3 i E.ht hi g L.wo l.length L.wc ⟨w.heap.size - 1, 0, none⟩ 1 1 [.int .i64 (v : Int)] (by rw [hsize]; rfl) hnews (by simp [Value.oneCell']) hr
        (fun j hj => by
          simp at hj; subst hj
          rw [hsize, cell_of_row w g _ cur.toArray _ _ h2]
          have : L.wo + l.length * 1 + 0 < cur.length := by omega
          rw [List.getElem?_toArray, List.getElem?_eq_getElem this]; rfl) (fun j hj => blkf0 h2 _)
      refine ⟨L.wA, L.wo, L.wc, w.setCells g (L.wo + l.length * i.size) [.int .i64 (v : Int)], ?_, .inr ⟨g, cur.set (L.wo + l.length) (.int .i64 (v : Int)), h1, ?_, by rw [List.length_set]; exact h3, by rw [hlen]; exact hr, ?_, h6⟩, ?_, .inl rfl⟩
      · rw [hv, hrun]; unfold FLay.wv FLay.wt; rw [h1, hlen]; rfl
      · rw [hsize, Nat.mul_one]
        exact blk_put h2 _ _
      · show ((cur.set _ _).drop L.wo).take _ = _
        rw [hlen, List.drop_set, if_neg (by omega), show L.wo + l.length - L.wo = l.length by omega, List.take_set, List.map_append, icells_append, ← h5]
        have hlt : l.length < (cur.drop L.wo).length := by simp; omega
        rw [List.take_succ_eq_append_getElem hlt, List.set_append_right _ _ (by simp; omega)]
        congr 1
        have : l.length - (List.take l.length (List.drop L.wo cur)).length = 0 := by simp; omega
        rw [this]
        rfl
      · refine ⟨rfl, rfl, rfl, by simp [World.setCells, World.setCell], fun k hk hne => ?_⟩
        simp only [World.setCells]
        exact Below.heap_setCell _ _ _ _ (fun e => hne (by rw [h1]; exact congrArg some e))
    · obtain ⟨v', w', hrun, ho, hg⟩ := run_append_arg_grows (P := P) w t ty 3 i (.int .i64 0) 1 8 E.ht hi hz hsize hbytes rfl (by decide) ⟨g, L.wo, none⟩ l.length L.wc (icells (l.map fun (x : Nat) => (x : Int))) (by rw [hol]; omega)
        (fun j u hu => by
          have e : (⟨g, L.wo, none⟩ : Addr).add j = ⟨g, L.wo + j, none⟩ := by unfold Addr.add; split <;> simp_all
          rw [e, cell_of_row w g _ cur.toArray _ _ h2]
          rw [← h5, List.getElem?_take] at hu
          split at hu
          · rw [List.getElem?_drop] at hu; simpa using hu
          · cases hu)
        ⟨w.heap.size - 1, 0, none⟩ 1 1 [.int .i64 (v : Int)] rfl hnews (by omega) (by unfold maxLen; omega) (by omega)
      obtain ⟨a, o, c, e1, e2, e3⟩ := fromOwn v' w' (by simpa [icells_append, icells] using ho)
      exact ⟨a, o, c, w', by rw [hv, hrun, e1], e2, ⟨hg.os, hg.tape, hg.output, hg.size, fun k hk _ => hg.block k hk (by simp)⟩, e3⟩

theorem wpList_wait {P : Program} {t : TypeId} (E : EI P t 3 (.int .i64 0) 1 8) {w : World} {ops : Array Oper} {rest : List Oper} {o : Oper} {a : Act} {Q : Exit → Act → World → Prop} (hgd : o.guard = none) (s x : Operand)
    (ho : o.op = .call { callee := .builtin .append, args := #[s, x], argTypes := #[t, t] })
    (L : FLay) (l : List Nat) (hs : a.eval s = L.wv l.length) (h : WaitAt w L l) (hl : l.length ≤ 4000000) (v : Nat) (A : Option Addr) (hx : a.eval x = .slice A 1 1) (hA : A = some ⟨w.heap.size - 1, 0, none⟩) (hc : w.cell? ⟨w.heap.size - 1, 0, none⟩ = some (.int .i64 (v : Int)))
    (hK : ∀ b o' c w', WaitAt w' (L.wt b o' c) (l ++ [v]) → w.grownBy w' L.wA → (b = L.wA ∨ ∃ g, b = some g ∧ w.heap.size ≤ g) → wpList P ops Q rest (a.put o.dst (.slice (b.map fun g => ⟨g, o', none⟩) (l.length + 1) c)) w') : wpList P ops Q (o :: rest) a w :=
  wpList_plain hgd fun _ hK' => by
    obtain ⟨b, o', c, w', hrun, h2, h3, h4⟩ := run_wait E w o.type L l h hl v A hA hc
    unfold Oper.wp execOp
    simp only [ho, resolve, invoke, builtin, Sem.run_bind, Sem.run_pure, Result.andThen_ok, List.map_toArray, List.map_cons, List.map_nil, hs, hx, hrun]
    have e : (L.wt b o' c).wv (l ++ [v]).length = .slice (b.map fun g => ⟨g, o', none⟩) (l.length + 1) c := by simp [FLay.wv, FLay.wt]
    rw [e]
    exact hK' _ _ (hK b o' c w' h2 h3 h4)

section
variable {w0 w : World} {n : Nat} {M : Nat → Option Nat} {L : FLay} {S : FoS} {u mk : Nat → Nat}

theorem FMem.waited {w1 : World} {a : Option Nat} {o c : Nat} {S' : FoS} (h : FMem w0 w n M L S u mk) (hk : ∀ k, k < w.heap.size → L.wA ≠ some k → w1.heap[k]? = w.heap[k]?) (hb : Below w0.heap.size w0 w1) (hW : WaitAt w1 (L.wt a o c) S'.wait) (ha : a = L.wA ∨ ∃ g, a = some g ∧ w.heap.size ≤ g)
    (hro : ∀ k, FRow S' u mk n k = FRow S u mk n k) (ht : S'.turn = S.turn) (hlk : S'.looks = S.looks) (hcl : S'.cls = S.cls) (hbd : FBd n S') :
    FMem w0 (w1.setCell ⟨L.f, 14, none⟩ ((L.wt a o c).wv S'.wait.length)) n M (L.wt a o c) S' u mk := by
  have hnf : ∀ k, L.wA = some k → k ≠ L.f := fun k hk => (h.nw k hk).1
  have hag : ∀ g, a = some g → g ≠ L.f ∧ (∀ i, 2 ≤ i → i ≤ 12 → L.b i ≠ g) ∧ w0.heap.size ≤ g := by
    intro g hg
    rcases ha with e | ⟨g', e, hg'⟩
    · rw [e] at hg; exact ⟨(h.nw g hg).1, (h.nw g hg).2, h.lo g (.inr (.inr hg))⟩
    · rw [e] at hg; cases hg
      have := h.flt
      refine ⟨by omega, fun i h2 h3 => ?_, Nat.le_trans h.below.size hg'⟩
      have := heap_lt0 (h.row i h2 h3)
      omega
  have hf1 : w1.heap[L.f]? = w.heap[L.f]? := hk _ h.flt (fun e => hnf _ e rfl)
  refine ⟨?_, fun i h2 h3 => ?_, ?_, h.inj, h.nf, fun g hg => ⟨(hag g hg).1, (hag g hg).2.1⟩, ?_, h.mate, h.mc, hb.setCell (h.lo _ (.inl rfl)) _, hbd, h.nn, h.mlt, by rw [hcl]; exact h.up, by rw [ht]; exact h.mark⟩
  · have := blk_put (hf1.trans h.fld) 14 ((L.wt a o c).wv S'.wait.length)
    rw [ht, hlk]
    exact this
  · have e := hk (L.b i) (heap_lt0 (h.row i h2 h3)) (fun e => (h.nw _ e).2 i h2 h3 rfl)
    have : (w1.setCell ⟨L.f, 14, none⟩ ((L.wt a o c).wv S'.wait.length)).heap[L.b i]? = w1.heap[L.b i]? := Below.heap_setCell _ _ _ _ (h.nf i h2 h3)
    rw [hro]
    exact this.trans (e.trans (h.row i h2 h3))
  · rcases hW with e | ⟨g, cur, e1, e2, e3⟩
    · exact .inl e
    · exact .inr ⟨g, cur, e1, (Below.heap_setCell _ _ _ _ (hag g e1).1).trans e2, e3⟩
  · rintro k (e | e | e)
    · exact h.lo k (.inl e)
    · exact h.lo k (.inr (.inl e))
    · exact (hag k e).2.2
end
end Go.Proofs.Ytgddfmfiiodgbaa

/- Stores into a forest's rows; walks of raise, Next. -/
namespace Go.Proofs.Ytgddfmfiiodgbaa
open Go Go.RowKit
set_option maxRecDepth 100000
set_option linter.unusedVariables false
set_option linter.unusedSimpArgs false

theorem FRow_s2 (S : FoS) (f : Nat → Nat) (u mk : Nat → Nat) (n k : Nat) (h : k ≠ 2) : FRow { S with label := f } u mk n k = FRow S u mk n k := by
  match k with
  | 0 | 1 | 3 | 4 | 5 | 6 | 7 | 8 | 9 | 10 | 11 | 12 => rfl
  | 2 => exact absurd rfl h
  | k + 13 => rfl
theorem FMem.s2 {w0 w : World} {n : Nat} {M : Nat → Option Nat} {L : FLay} {S : FoS} {u mk : Nat → Nat} (h : FMem w0 w n M L S u mk) (v : Nat) (x : Nat) (hx : x ≤ 2) : FMem w0 (w.setCell ⟨L.b 2, v, none⟩ ((fun (y : Nat) => Value.int .i64 (y : Int)) x)) n M L { S with label := upd S.label v x } u mk :=
  h.set 2 v ((fun (y : Nat) => Value.int .i64 (y : Int)) x) (by omega) (by omega) (by show rowOf n _ = (rowOf n _).set _ _; rw [rowOf_set, upd_map S.label (fun y => (fun (y : Nat) => Value.int .i64 (y : Int)) y)]) (fun k _ _ hk => FRow_s2 S _ u mk n k hk) rfl rfl rfl (⟨h.bd.pred, h.bd.root, h.bd.bridge, h.bd.base, h.bd.wait, h.bd.len, h.bd.turn, h.bd.looks, fun z hz => by show upd S.label v x z ≤ 2; unfold upd; split; exact hx; exact h.bd.label z hz⟩) h.up h.mark
theorem FRow_s3 (S : FoS) (f : Nat → Bool) (u mk : Nat → Nat) (n k : Nat) (h : k ≠ 3) : FRow { S with outer := f } u mk n k = FRow S u mk n k := by
  match k with
  | 0 | 1 | 2 | 4 | 5 | 6 | 7 | 8 | 9 | 10 | 11 | 12 => rfl
  | 3 => exact absurd rfl h
  | k + 13 => rfl
theorem FMem.s3 {w0 w : World} {n : Nat} {M : Nat → Option Nat} {L : FLay} {S : FoS} {u mk : Nat → Nat} (h : FMem w0 w n M L S u mk) (v : Nat) (x : Bool) (hx : True) : FMem w0 (w.setCell ⟨L.b 3, v, none⟩ (Value.bool x)) n M L { S with outer := upd S.outer v x } u mk :=
  h.set 3 v (Value.bool x) (by omega) (by omega) (by show rowOf n _ = (rowOf n _).set _ _; rw [rowOf_set, upd_map S.outer (fun y => Value.bool y)]) (fun k _ _ hk => FRow_s3 S _ u mk n k hk) rfl rfl rfl (⟨h.bd.pred, h.bd.root, h.bd.bridge, h.bd.base, h.bd.wait, h.bd.len, h.bd.turn, h.bd.looks, h.bd.label⟩) h.up h.mark
theorem FRow_s4 (S : FoS) (f : Nat → Int) (u mk : Nat → Nat) (n k : Nat) (h : k ≠ 4) : FRow { S with even := f } u mk n k = FRow S u mk n k := by
  match k with
  | 0 | 1 | 2 | 3 | 5 | 6 | 7 | 8 | 9 | 10 | 11 | 12 => rfl
  | 4 => exact absurd rfl h
  | k + 13 => rfl
theorem FMem.s4 {w0 w : World} {n : Nat} {M : Nat → Option Nat} {L : FLay} {S : FoS} {u mk : Nat → Nat} (h : FMem w0 w n M L S u mk) (v : Nat) (x : Int) (hx : True) : FMem w0 (w.setCell ⟨L.b 4, v, none⟩ (Value.int .i64 x)) n M L { S with even := upd S.even v x } u mk :=
  h.set 4 v (Value.int .i64 x) (by omega) (by omega) (by show rowOf n _ = (rowOf n _).set _ _; rw [rowOf_set, upd_map S.even (fun y => Value.int .i64 y)]) (fun k _ _ hk => FRow_s4 S _ u mk n k hk) rfl rfl rfl (⟨h.bd.pred, h.bd.root, h.bd.bridge, h.bd.base, h.bd.wait, h.bd.len, h.bd.turn, h.bd.looks, h.bd.label⟩) h.up h.mark
theorem FRow_s5 (S : FoS) (f : Nat → Int) (u mk : Nat → Nat) (n k : Nat) (h : k ≠ 5) : FRow { S with odd := f } u mk n k = FRow S u mk n k := by
  match k with
  | 0 | 1 | 2 | 3 | 4 | 6 | 7 | 8 | 9 | 10 | 11 | 12 => rfl
  | 5 => exact absurd rfl h
  | k + 13 => rfl
theorem FMem.s5 {w0 w : World} {n : Nat} {M : Nat → Option Nat} {L : FLay} {S : FoS} {u mk : Nat → Nat} (h : FMem w0 w n M L S u mk) (v : Nat) (x : Int) (hx : True) : FMem w0 (w.setCell ⟨L.b 5, v, none⟩ (Value.int .i64 x)) n M L { S with odd := upd S.odd v x } u mk :=
  h.set 5 v (Value.int .i64 x) (by omega) (by omega) (by show rowOf n _ = (rowOf n _).set _ _; rw [rowOf_set, upd_map S.odd (fun y => Value.int .i64 y)]) (fun k _ _ hk => FRow_s5 S _ u mk n k hk) rfl rfl rfl (⟨h.bd.pred, h.bd.root, h.bd.bridge, h.bd.base, h.bd.wait, h.bd.len, h.bd.turn, h.bd.looks, h.bd.label⟩) h.up h.mark
theorem FRow_s6 (S : FoS) (f : Nat → Nat) (u mk : Nat → Nat) (n k : Nat) (h : k ≠ 6) : FRow { S with pred := f } u mk n k = FRow S u mk n k := by
  match k with
  | 0 | 1 | 2 | 3 | 4 | 5 | 7 | 8 | 9 | 10 | 11 | 12 => rfl
  | 6 => exact absurd rfl h
  | k + 13 => rfl
theorem FMem.s6 {w0 w : World} {n : Nat} {M : Nat → Option Nat} {L : FLay} {S : FoS} {u mk : Nat → Nat} (h : FMem w0 w n M L S u mk) (v : Nat) (x : Nat) (hx : x < n) : FMem w0 (w.setCell ⟨L.b 6, v, none⟩ ((fun (y : Nat) => Value.int .i64 (y : Int)) x)) n M L { S with pred := upd S.pred v x } u mk :=
  h.set 6 v ((fun (y : Nat) => Value.int .i64 (y : Int)) x) (by omega) (by omega) (by show rowOf n _ = (rowOf n _).set _ _; rw [rowOf_set, upd_map S.pred (fun y => (fun (y : Nat) => Value.int .i64 (y : Int)) y)]) (fun k _ _ hk => FRow_s6 S _ u mk n k hk) rfl rfl rfl (⟨fun z hz => by show upd S.pred v x z < n; unfold upd; split; exact hx; exact h.bd.pred z hz, h.bd.root, h.bd.bridge, h.bd.base, h.bd.wait, h.bd.len, h.bd.turn, h.bd.looks, h.bd.label⟩) h.up h.mark
theorem FRow_s7 (S : FoS) (f : Nat → Option Nat) (u mk : Nat → Nat) (n k : Nat) (h : k ≠ 7) : FRow { S with root := f } u mk n k = FRow S u mk n k := by
  match k with
  | 0 | 1 | 2 | 3 | 4 | 5 | 6 | 8 | 9 | 10 | 11 | 12 => rfl
  | 7 => exact absurd rfl h
  | k + 13 => rfl
theorem FMem.s7 {w0 w : World} {n : Nat} {M : Nat → Option Nat} {L : FLay} {S : FoS} {u mk : Nat → Nat} (h : FMem w0 w n M L S u mk) (v : Nat) (x : Option Nat) (hx : (∀ r, x = some r → r < n)) : FMem w0 (w.setCell ⟨L.b 7, v, none⟩ ((fun (y : Option Nat) => Value.int .i64 (encO y)) x)) n M L { S with root := upd S.root v x } u mk :=
  h.set 7 v ((fun (y : Option Nat) => Value.int .i64 (encO y)) x) (by omega) (by omega) (by show rowOf n _ = (rowOf n _).set _ _; rw [rowOf_set, upd_map S.root (fun y => (fun (y : Option Nat) => Value.int .i64 (encO y)) y)]) (fun k _ _ hk => FRow_s7 S _ u mk n k hk) rfl rfl rfl (⟨h.bd.pred, fun z r hz hr => by revert hr; show upd S.root v x z = some r → r < n; unfold upd; split; exact hx r; exact h.bd.root z r hz, h.bd.bridge, h.bd.base, h.bd.wait, h.bd.len, h.bd.turn, h.bd.looks, h.bd.label⟩) h.up h.mark
theorem FRow_s9 (S : FoS) (f : Nat → Bool) (u mk : Nat → Nat) (n k : Nat) (h : k ≠ 9) : FRow { S with gone := f } u mk n k = FRow S u mk n k := by
  match k with
  | 0 | 1 | 2 | 3 | 4 | 5 | 6 | 7 | 8 | 10 | 11 | 12 => rfl
  | 9 => exact absurd rfl h
  | k + 13 => rfl
theorem FMem.s9 {w0 w : World} {n : Nat} {M : Nat → Option Nat} {L : FLay} {S : FoS} {u mk : Nat → Nat} (h : FMem w0 w n M L S u mk) (v : Nat) (x : Bool) (hx : True) : FMem w0 (w.setCell ⟨L.b 9, v, none⟩ (Value.bool x)) n M L { S with gone := upd S.gone v x } u mk :=
  h.set 9 v (Value.bool x) (by omega) (by omega) (by show rowOf n _ = (rowOf n _).set _ _; rw [rowOf_set, upd_map S.gone (fun y => Value.bool y)]) (fun k _ _ hk => FRow_s9 S _ u mk n k hk) rfl rfl rfl (⟨h.bd.pred, h.bd.root, h.bd.bridge, h.bd.base, h.bd.wait, h.bd.len, h.bd.turn, h.bd.looks, h.bd.label⟩) h.up h.mark
theorem FRow_s11 (S : FoS) (f : Nat → Nat) (u mk : Nat → Nat) (n k : Nat) (h : k ≠ 11) : FRow { S with base := f } u mk n k = FRow S u mk n k := by
  match k with
  | 0 | 1 | 2 | 3 | 4 | 5 | 6 | 7 | 8 | 9 | 10 | 12 => rfl
  | 11 => exact absurd rfl h
  | k + 13 => rfl
theorem FMem.s11 {w0 w : World} {n : Nat} {M : Nat → Option Nat} {L : FLay} {S : FoS} {u mk : Nat → Nat} (h : FMem w0 w n M L S u mk) (v : Nat) (x : Nat) (hx : x < n) : FMem w0 (w.setCell ⟨L.b 11, v, none⟩ ((fun (y : Nat) => Value.int .i64 (y : Int)) x)) n M L { S with base := upd S.base v x } u mk :=
  h.set 11 v ((fun (y : Nat) => Value.int .i64 (y : Int)) x) (by omega) (by omega) (by show rowOf n _ = (rowOf n _).set _ _; rw [rowOf_set, upd_map S.base (fun y => (fun (y : Nat) => Value.int .i64 (y : Int)) y)]) (fun k _ _ hk => FRow_s11 S _ u mk n k hk) rfl rfl rfl (⟨h.bd.pred, h.bd.root, h.bd.bridge, fun z hz => by show upd S.base v x z < n; unfold upd; split; exact hx; exact h.bd.base z hz, h.bd.wait, h.bd.len, h.bd.turn, h.bd.looks, h.bd.label⟩) h.up h.mark
theorem FRow_s8 (S : FoS) (f : Nat → Nat × Nat) (u mk : Nat → Nat) (n k : Nat) (h : k ≠ 8) : FRow { S with bridge := f } u mk n k = FRow S u mk n k := by
  match k with
  | 0 | 1 | 2 | 3 | 4 | 5 | 6 | 7 | 9 | 10 | 11 | 12 => rfl
  | 8 => exact absurd rfl h
  | k + 13 => rfl

theorem FMem.drew {w0 w : World} {n : Nat} {M : Nat → Option Nat} {L : FLay} {S : FoS} {u mk : Nat → Nat} (h : FMem w0 w n M L S u mk) : FMem w0 w.drew n M L S u mk := h.drewN 1
theorem own_row {L : FLay} {i : Nat} (h2 : 2 ≤ i) (h3 : i ≤ 12) : L.own (L.b i) := .inr (.inl ⟨i, h2, h3, rfl⟩)

/-- What a change leaves. -/
def FPost (w0 : World) (n : Nat) (M : Nat → Option Nat) (L : FLay) (S' : FoS) (x : Value) (w : World) (e : Ending) (w' : World) : Prop :=
  ∃ L', e = .returned x ∧ FW w0 w' n M L' S' ∧ FStep L L' w w'

/-- The same, the pointers and the marks as they were. -/
def FPostU (w0 : World) (n : Nat) (M : Nat → Option Nat) (L : FLay) (S' : FoS) (u mk : Nat → Nat) (x : Value) (w : World) (e : Ending) (w' : World) : Prop :=
  ∃ L', e = .returned x ∧ FMem w0 w' n M L' S' u mk ∧ FStep L L' w w'


set_option maxHeartbeats 2000000 in
theorem raise_u {w0 w : World} {n : Nat} {M : Nat → Option Nat} {L : FLay} {S : FoS} {u mk : Nat → Nat} (hM : FMem w0 w n M L S u mk) {v : Nat} (hv : v < n) (hl : S.wait.length ≤ 2 * n) (x : Int) (l : Nat) (hl2 : l ≤ 2) :
    Calls Try.prog 169 #[.pointer (some ⟨L.f, 0, none⟩), .int .i64 (v : Int), .int .i64 x, .int .i64 (l : Int)] w (FPostU w0 n M L (S.raise v x l) u mk (.tuple #[]) w) := by
  have HM := Lib.hid hM
  have hnn := hM.nn
  have hl9 : S.wait.length ≤ 4000000 := by omega
  have f3 := hM.fc 3 _ rfl
  have f4 := hM.fc 4 _ rfl
  have z3 := hM.rf 3 (by omega) (by omega) v
  have z4 := hM.rf 4 (by omega) (by omega) v
  have c3 := hM.rc 3 (by omega) (by omega) v _ (rowOf_get _ hv)
  have c4 := hM.rc 4 (by omega) (by omega) v _ (rowOf_get _ hv)
  have n34 : L.b 4 ≠ L.b 3 := fun e => by have := hM.inj 4 3 (by omega) (by omega) (by omega) (by omega) e; omega
  dsimp only [FLay.rv] at f3 f4
  have i1 : (0 : Int) ≤ (v : Int) := by omega
  have i2 : (v : Int) < (n : Int) := by omega
  have HS := fun (w' : World) (S' : FoS) (h : FMem w0 w' n M L S' u mk) => (⟨h.fc 3 _ rfl, h.fc 4 _ rfl⟩ : w'.cell? ⟨L.f, 3, none⟩ = some (L.rv n 3) ∧ w'.cell? ⟨L.f, 4, none⟩ = some (L.rv n 4))
  clear hM
  go_enter Try.func169, Try.ntmps169
  go_upto_region 0 with fail
  go_cut [] (fun wc => Hid (FMem w0 wc n M L { S with outer := upd S.outer v true, even := upd S.even v x } u mk) ∧ Hid (FStep L L w wc))
  case first =>
    go_region_held3 (fun w' => w'.cell? ⟨L.f, 3, none⟩ = some (.slice (some ⟨L.b 3, 0, none⟩) n n) ∧ w'.cell? ⟨L.f, 4, none⟩ = some (.slice (some ⟨L.b 4, 0, none⟩) n n)) (first | exact ⟨f3, f4⟩ | exact HS _ _ ((HM.out.s3 v true trivial).drew) | exact HS _ _ ((HM.out.s3 v true trivial).s4 v x trivial).drew) (fail)
    all_goals
      go_wp2_with fail
      go_meet
      exact ⟨((HM.out.s3 v true trivial).s4 v x trivial).drew, ((((FStep.refl _ _)).set (p := ⟨L.b 3, v, none⟩) (own_row (by omega) (by omega)) _).set (p := ⟨L.b 4, v, none⟩) (own_row (by omega) (by omega)) _).drew⟩
  case rest =>
    obtain ⟨hM1, hS1⟩ := hcut
    clear HS HM f3 f4 z3 z4 c3 c4 n34
    have f2 := hM1.out.fc 2 _ rfl
    have c2 := hM1.out.rc 2 (by omega) (by omega) v _ (rowOf_get _ hv)
    have z2 := hM1.out.rf 2 (by omega) (by omega) v
    dsimp only [FLay.rv] at f2 c2
    have hend : ∀ (w2 : World) (lb : Nat → Nat), FMem w0 w2 n M L { S with outer := upd S.outer v true, even := upd S.even v x, label := lb } u mk → FStep L L w w2 → lb = (if S.label v = 0 then upd S.label v l else S.label) →
        ∀ (a : Option Nat) (o c : Nat) (w3 : World), WaitAt w3 (L.wt a o c) (S.wait ++ [v]) → (w2.alloc (.cells #[.int .i64 (v : Int)] 3)).grownBy w3 L.wA → (a = L.wA ∨ ∃ g, a = some g ∧ (w2.alloc (.cells #[.int .i64 (v : Int)] 3)).heap.size ≤ g) →
        FPostU w0 n M L (S.raise v x l) u mk (.tuple #[]) w (.returned (.tuple #[])) (w3.setCell ⟨L.f, 14, none⟩ ((L.wt a o c).wv (S.wait ++ [v]).length)) := by
      intro w2 lb hM2 hS2 hlb a o c w3 hW hg ha
      have hk : ∀ k, k < w2.heap.size → L.wA ≠ some k → w3.heap[k]? = w2.heap[k]? := fun k hk hne => (hg.block k (by simp; omega) (fun e => hne e.symm)).trans (Below.heap_alloc w2 _ k hk)
      have hbw : Below w0.heap.size w0 w3 := Below.grown (Below.alloc hM2.below hM2.below.size _) hg (by have := hM2.below.size; go_size) (fun k hk => hM2.lo k (.inr (.inr hk)))
      have ha' : a = L.wA ∨ ∃ g, a = some g ∧ w2.heap.size ≤ g := ha.imp id fun ⟨g, h1, h2⟩ => ⟨g, h1, by simp at h2; omega⟩
      have hM3 := hM2.waited (S' := { S with outer := upd S.outer v true, even := upd S.even v x, label := lb, wait := S.wait ++ [v] }) hk hbw hW ha' (fun k => rfl) rfl rfl rfl
        ⟨hM2.bd.pred, hM2.bd.root, hM2.bd.bridge, hM2.bd.base, fun z hz => by
          rcases List.mem_append.1 hz with hz | hz
          · exact hM2.bd.wait z hz
          · simp at hz; omega, by simp; omega, hM2.bd.turn, hM2.bd.looks, hM2.bd.label⟩
      subst hlb
      refine ⟨L.wt a o c, rfl, hM3, hS2.trans ?_⟩
      refine ⟨rfl, rfl, rfl, rfl, rfl, ha', hg.os, hg.tape, hg.output, by have := hg.size; simp [World.setCell] at this ⊢; omega, fun k hk2 hno => ?_⟩
      exact (Below.heap_setCell _ _ _ _ (fun e => hno (.inl e))).trans (hk k hk2 (fun e => hno (.inr (.inr e))))
    by_cases h0 : S.label v = 0
    · rw [h0] at c2
      have HE := Lib.hid (fun w2 h1 h2 => hend w2 (upd S.label v l) h1 h2 (by rw [if_pos h0]))
      clear hend h0
      go_upto_region 2 with fail
      go_cut [] (fun wc => Hid (FMem w0 wc n M L { S with outer := upd S.outer v true, even := upd S.even v x, label := upd S.label v l } u mk) ∧ Hid (FStep L L w wc))
      case first =>
        go_wp2_with fail
        go_meet
        exact ⟨hM1.out.s2 v l hl2, hS1.out.set (p := ⟨L.b 2, v, none⟩) (own_row (by omega) (by omega)) _⟩
      case rest =>
        obtain ⟨hM2, hS2⟩ := hcut
        clear hM1 hS1 f2 c2 z2
        (have f14 := hM2.out.fc 14 _ rfl
         have z14 := hM2.out.ff 14
         have hwt := hM2.out.wait
         have HW := Lib.hid (show WaitAt (wc.alloc (.cells #[.int .i64 (v : Int)] 3)) L S.wait from (hM2.out.go ((Below.refl _ _).alloc (Nat.le_refl _) _)).wait)
         have hfl := hM2.out.flt
         have hwf : ∀ k, L.wA = some k → k ≠ L.f := fun k hk => (hM2.out.nw k hk).1
         have HWF := Lib.hid hwf
         have HF0 := Lib.hid hM2.out.fld
         have HCN := Lib.hid (show (wc.alloc (.cells #[.int .i64 (v : Int)] 3)).cell? ⟨(wc.alloc (.cells #[.int .i64 (v : Int)] 3)).heap.size - 1, 0, none⟩ = some (.int .i64 (v : Int)) by rw [World.size_alloc, Nat.add_sub_cancel]; exact blkc0 (heap_alloc_new wc _) 0 _ rfl)
         clear hwt hwf
         go_wp2_with (at_builtin; go_loud (refine wpList_wait EI_int rfl (.tmp 40) (.tmp 42) (by rfl) L S.wait (by rfl) HW.out hl9 v (some ⟨wc.heap.size, 0, none⟩) (by rfl) (by simp) HCN.out ?_; intro a o c w3 hW3 hg3 ha3; have hf3 := (hg3.block L.f (by simp; omega) (fun e => HWF.out _ e.symm rfl)).trans (heap_old HF0.out); have z14' := blkf0 hf3 14; have c14' := blkc0 hf3 14 _ rfl; clear hf3))
         go_end0
         have h9 := HE.out wc hM2.out hS2.out a o c w3 hW3 hg3 ha3
         rw [show (L.wt a o c).wv (S.wait ++ [v]).length = .slice (a.map fun g => ⟨g, o, none⟩) (S.wait.length + 1) c by simp [FLay.wv, FLay.wt]] at h9
         exact h9)
    · have HE := Lib.hid (fun w2 h1 h2 => hend w2 S.label h1 h2 (by rw [if_neg h0]))
      have i3 : ((S.label v : Int) == 0) = false := by rw [beq_eq_false_iff_ne]; omega
      have i4 : ¬ S.label v = 0 := h0
      clear hend
      obtain ⟨hM2, hS2⟩ : Hid (FMem w0 wc n M L { S with outer := upd S.outer v true, even := upd S.even v x, label := S.label } u mk) ∧ Hid (FStep L L w wc) := ⟨hM1, hS1⟩
      (have f14 := hM2.out.fc 14 _ rfl
       have z14 := hM2.out.ff 14
       have hwt := hM2.out.wait
       have HW := Lib.hid (show WaitAt (wc.alloc (.cells #[.int .i64 (v : Int)] 3)) L S.wait from (hM2.out.go ((Below.refl _ _).alloc (Nat.le_refl _) _)).wait)
       have hfl := hM2.out.flt
       have hwf : ∀ k, L.wA = some k → k ≠ L.f := fun k hk => (hM2.out.nw k hk).1
       have HWF := Lib.hid hwf
       have HF0 := Lib.hid hM2.out.fld
       have HCN := Lib.hid (show (wc.alloc (.cells #[.int .i64 (v : Int)] 3)).cell? ⟨(wc.alloc (.cells #[.int .i64 (v : Int)] 3)).heap.size - 1, 0, none⟩ = some (.int .i64 (v : Int)) by rw [World.size_alloc, Nat.add_sub_cancel]; exact blkc0 (heap_alloc_new wc _) 0 _ rfl)
       clear hwt hwf
       go_wp2_with (at_builtin; go_loud (refine wpList_wait EI_int rfl (.tmp 40) (.tmp 42) (by rfl) L S.wait (by rfl) HW.out hl9 v (some ⟨wc.heap.size, 0, none⟩) (by rfl) (by simp) HCN.out ?_; intro a o c w3 hW3 hg3 ha3; have hf3 := (hg3.block L.f (by simp; omega) (fun e => HWF.out _ e.symm rfl)).trans (heap_old HF0.out); have z14' := blkf0 hf3 14; have c14' := blkc0 hf3 14 _ rfl; clear hf3))
       go_end0
       have h9 := HE.out wc hM2.out hS2.out a o c w3 hW3 hg3 ha3
       rw [show (L.wt a o c).wv (S.wait ++ [v]).length = .slice (a.map fun g => ⟨g, o, none⟩) (S.wait.length + 1) c by simp [FLay.wv, FLay.wt]] at h9
       exact h9)

theorem raise_any {w0 w : World} {n : Nat} {M : Nat → Option Nat} {L : FLay} {S : FoS} (hF : FW w0 w n M L S) {v : Nat} (hv : v < n) (hl : S.wait.length ≤ 2 * n) (x : Int) (l : Nat) (hl2 : l ≤ 2) :
    Calls Try.prog 169 #[.pointer (some ⟨L.f, 0, none⟩), .int .i64 (v : Int), .int .i64 x, .int .i64 (l : Int)] w (FPost w0 n M L (S.raise v x l) (.tuple #[]) w) := by
  obtain ⟨u, mk, hM⟩ := hF
  exact (raise_u hM hv hl x l hl2).mono fun e w' ⟨L', h1, h2, h3⟩ => ⟨L', h1, ⟨u, mk, h2⟩, h3⟩

theorem raise_at {w0 w : World} {n : Nat} {M : Nat → Option Nat} {L : FLay} {S : FoS} (hF : FW w0 w n M L S) {v : Nat} (hv : v < n) (hl : S.wait.length ≤ 2 * n) (x : Int) (l : Nat) (hl2 : l ≤ 2) (li : Int) (hli : li = (l : Int)) :
    Calls Try.prog 169 #[.pointer (some ⟨L.f, 0, none⟩), .int .i64 (v : Int), .int .i64 x, .int .i64 li] w (FPost w0 n M L (S.raise v x l) (.tuple #[]) w) := by
  subst hli
  exact raise_any hF hv hl x l hl2

theorem take_tail {l r : List Value} {k : Nat} {x : Value} (h : l.take (k + 1) = x :: r) : (l.drop 1).take k = r := by
  cases l with
  | nil => simp at h
  | cons a l => simp at h ⊢; exact h.2

theorem next_none {w0 w : World} {n : Nat} {M : Nat → Option Nat} {L : FLay} {S : FoS} (hF : FW w0 w n M L S) (hw : S.wait = []) :
    Calls Try.prog 139 #[.pointer (some ⟨L.f, 0, none⟩)] w fun e w' => e = .returned (.tuple #[.int .i64 0, .bool false]) ∧ w = w' := by
  have f14 := hF.fc 14 _ rfl
  rw [hw] at f14
  simp only [FLay.wv, List.length_nil] at f14
  clear hF hw
  go_enter Try.func139, Try.ntmps139
  go_wp2
  go_ret2
  simp

set_option maxHeartbeats 1000000 in
theorem next_some {w0 w : World} {n : Nat} {M : Nat → Option Nat} {L : FLay} {S : FoS} (hF : FW w0 w n M L S) {v : Nat} {l : List Nat} (hw : S.wait = v :: l) :
    Calls Try.prog 139 #[.pointer (some ⟨L.f, 0, none⟩)] w (FPost w0 n M L { S with wait := l } (.tuple #[.int .i64 (v : Int), .bool true]) w) := by
  obtain ⟨u, mk, hM⟩ := hF
  have f14 := hM.fc 14 _ rfl
  have z14 := hM.ff 14
  have hwt := hM.wait
  have hlen := hM.bd.len
  have hnn := hM.nn
  rw [hw] at f14 hwt hlen
  rcases hwt with ⟨e, _⟩ | ⟨g, cur, e1, e2, e3, e4, e5, e6⟩
  · cases e
  simp only [FLay.wv, e1, Option.map_some, List.length_cons] at f14 hlen
  have hl9 : l.length ≤ 4000000 := by omega
  have hv : w.cell? ⟨g, L.wo, none⟩ = some (.int .i64 (v : Int)) := by
    rw [cell_of_row w g _ cur.toArray _ _ e2]
    have h0 : ((cur.drop L.wo).take (v :: l).length)[0]? = some (.int .i64 (v : Int)) := by rw [e5]; simp [icells]
    rw [List.getElem?_take, if_pos (by simp), List.getElem?_drop] at h0
    simpa using h0
  have hcap : l.length + 1 ≤ L.wc := by simpa using e4
  have hcap2 : L.wc ≤ 9223372036854775807 := by unfold maxLen at e6; omega
  have i0 : ((l.length : Int) + 1 == 0) = false := by rw [beq_eq_false_iff_ne]; omega
  have hgf : L.f ≠ g := fun e => (hM.nw g e1).1 e.symm
  have HM := Lib.hid hM
  have hend : ∀ (a : Option Nat) (o c : Nat), a = L.wA → WaitAt w (L.wt a o c) l → FPost w0 n M L { S with wait := l } (.tuple #[.int .i64 (v : Int), .bool true]) w (.returned (.tuple #[.int .i64 (v : Int), .bool true])) (w.setCell ⟨L.f, 14, none⟩ ((L.wt a o c).wv l.length)) := by
    intro a o c ha hW
    have hM3 := hM.waited (w1 := w) (a := a) (o := o) (c := c) (S' := { S with wait := l }) (fun _ _ _ => rfl) hM.below hW (.inl ha) (fun k => rfl) rfl rfl rfl ⟨hM.bd.pred, hM.bd.root, hM.bd.bridge, hM.bd.base, fun z hz => hM.bd.wait z (by rw [hw]; simp [hz]), by show l.length ≤ _; omega, hM.bd.turn, hM.bd.looks, hM.bd.label⟩
    refine ⟨L.wt a o c, rfl, ⟨u, mk, hM3⟩, rfl, rfl, rfl, rfl, rfl, .inl ha, rfl, rfl, rfl, by simp [World.setCell], fun k hk2 hno => ?_⟩
    exact Below.heap_setCell _ _ _ _ (fun e => hno (.inl e))
  have hW : WaitAt w (L.wt (some g) (if L.wc = 1 then L.wo else L.wo + 1) (L.wc - 1)) l := by
    refine .inr ⟨g, cur, rfl, e2, ?_, by show l.length ≤ L.wc - 1; omega, ?_, by show L.wc - 1 ≤ _; omega⟩
    · show (if L.wc = 1 then L.wo else L.wo + 1) + (L.wc - 1) ≤ cur.length
      split <;> omega
    · show (cur.drop (if L.wc = 1 then L.wo else L.wo + 1)).take l.length = _
      split
      · obtain rfl : l = [] := List.eq_nil_of_length_eq_zero (by omega)
        simp [icells]
      · have h5 := take_tail e5
        rw [List.drop_drop] at h5
        exact h5
  have HE := Lib.hid (hend (some g) _ _ e1.symm hW)
  clear hend hW hM e1 e2 e3 e4 e5 e6 hw hlen
  by_cases h1 : L.wc = 1
  · rw [h1] at f14
    rw [if_pos h1, h1] at HE
    go_enter Try.func139, Try.ntmps139
    go_wp2
    go_ret2
    exact HE.out
  · rw [if_neg h1] at HE
    go_enter Try.func139, Try.ntmps139
    go_wp2
    go_ret2
    exact HE.out
end Go.Proofs.Ytgddfmfiiodgbaa
