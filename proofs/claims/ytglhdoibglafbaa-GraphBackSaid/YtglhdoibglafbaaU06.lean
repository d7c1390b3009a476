/- Walks of heap's up and down over a queue's entries. -/
import Derived.Test.YtglhdoibglafbaaU04
import Derived.Test.YtglhdoibglafbaaU05
namespace Go.Proofs.Ytglhdoibglafbaa
open Go Go.RowKit
set_option maxRecDepth 100000
set_option linter.unusedVariables false
set_option linter.unusedSimpArgs false

/-- A queue at block q: a heap's row of the call's own. -/
structure QAt (w : World) (q B : Nat) (v : Value) (es : List PE) : Prop where
  blk : w.heap[q]? = some (.cells #[v] 90 (0, 0))
  own : w.ownsRow B 39 2 v es.length (pcells es)
  hB : q < B
/-- Nothing but the queue, and its row, has turned. -/
structure Touch (q : Nat) (v : Value) (w w' : World) : Prop where
  os : w'.os = w.os
  tape : w'.tape = w.tape
  output : w'.output = w.output
  size : w.heap.size ≤ w'.heap.size
  block : ∀ k, k < w.heap.size → k ≠ q → v.ownBlock ≠ some k → w'.heap[k]? = w.heap[k]?

theorem nil_ptr (nm : String) (k : Nat) (h : nm = "Less" ∨ nm = "Len" ∨ nm = "Swap" ∨ nm = "Push" ∨ nm = "Pop") (a : Addr) (w : World) : (nilAhead 282 92 (.pointer (some a)) nm).run Try.prog w = .ok (some false) w := by
  rcases h with rfl | rfl | rfl | rfl | rfl <;> kernel_rfl
theorem m_push (a : Addr) (w : World) : (method 282 92 (.pointer (some a)) "Push").run Try.prog w = .ok (162, .pointer (some a)) w := by kernel_rfl
theorem m_pop (a : Addr) (w : World) : (method 282 92 (.pointer (some a)) "Pop").run Try.prog w = .ok (161, .pointer (some a)) w := by kernel_rfl
theorem m_less {a : Addr} {v : Value} {w : World} (h : w.cell? a = some v) : (method 282 92 (.pointer (some a)) "Less").run Try.prog w = .ok (159, v) w := by
  have hm : ((Try.prog.info? 92).bind fun i => (i.methods.find? (·.name == "Less")).map fun m => (m.path, m.func)) = some (#[], some (159, false)) := by kernel_rfl
  obtain ⟨i, hi, hm1⟩ := Option.bind_eq_some_iff.1 hm
  obtain ⟨m, hmm, hm2⟩ := Option.map_eq_some_iff.1 hm1
  simp only [Prod.mk.injEq] at hm2
  obtain ⟨hp, hf⟩ := hm2
  have e : (method 282 92 (.pointer (some a)) "Less") = (do
      let some m := (← typeInfo 92).methods.find? (·.name == "Less") | stuck "invoke: the dynamic type lacks the method"
      let (xt, x) ← follow m.path.toList 92 (.val (.pointer (some a)))
      match m.func with
      | none =>
        match ← x.get xt with
        | .iface t' v' => method 281 t' v' "Less"
        | .nilIface => runtimePanic .nilDeref
        | _ => stuck "method row: interface value expected"
      | some (f, pointerReceiver) =>
        pure (f, ← receiverAt xt x pointerReceiver (if m.path.isEmpty then some (("Less".splitOn ".").getLastD "Less") else none))) := rfl
  have hu := run_underlying (P := Try.prog) Try.underlying92
  have ha : ∀ w0 : World, (isAgg 88).run Try.prog w0 = .ok false w0 := fun w0 => by kernel_rfl
  have hnc : ∀ (s : String) (w0 : World), (Builtin.ssaWrapNilChk_ #[92] 92 #[.pointer (some a), strVal "", strVal s]).run Try.prog w0 = .ok (.pointer (some a)) w0 := fun s w0 => rfl
  have hrec : ∀ s, (receiverAt 92 (.val (.pointer (some a))) false (some s)).run Try.prog w = .ok v w := fun s => by
    unfold receiverAt
    simp [hu, Place.get, hnc, loadVar, ha, asAddr, h, Result.andThen]
  rw [e]
  simp [typeInfo, hi, hmm, hp, hf, follow, hrec, Result.andThen]
theorem m_len {a : Addr} {v : Value} {w : World} (h : w.cell? a = some v) : (method 282 92 (.pointer (some a)) "Len").run Try.prog w = .ok (158, v) w := by
  have hm : ((Try.prog.info? 92).bind fun i => (i.methods.find? (·.name == "Len")).map fun m => (m.path, m.func)) = some (#[], some (158, false)) := by kernel_rfl
  obtain ⟨i, hi, hm1⟩ := Option.bind_eq_some_iff.1 hm
  obtain ⟨m, hmm, hm2⟩ := Option.map_eq_some_iff.1 hm1
  simp only [Prod.mk.injEq] at hm2
  obtain ⟨hp, hf⟩ := hm2
  have e : (method 282 92 (.pointer (some a)) "Len") = (do
      let some m := (← typeInfo 92).methods.find? (·.name == "Len") | stuck "invoke: the dynamic type lacks the method"
      let (xt, x) ← follow m.path.toList 92 (.val (.pointer (some a)))
      match m.func with
      | none =>
        match ← x.get xt with
        | .iface t' v' => method 281 t' v' "Len"
        | .nilIface => runtimePanic .nilDeref
        | _ => stuck "method row: interface value expected"
      | some (f, pointerReceiver) =>
        pure (f, ← receiverAt xt x pointerReceiver (if m.path.isEmpty then some (("Len".splitOn ".").getLastD "Len") else none))) := rfl
  have hu := run_underlying (P := Try.prog) Try.underlying92
  have ha : ∀ w0 : World, (isAgg 88).run Try.prog w0 = .ok false w0 := fun w0 => by kernel_rfl
  have hnc : ∀ (s : String) (w0 : World), (Builtin.ssaWrapNilChk_ #[92] 92 #[.pointer (some a), strVal "", strVal s]).run Try.prog w0 = .ok (.pointer (some a)) w0 := fun s w0 => rfl
  have hrec : ∀ s, (receiverAt 92 (.val (.pointer (some a))) false (some s)).run Try.prog w = .ok v w := fun s => by
    unfold receiverAt
    simp [hu, Place.get, hnc, loadVar, ha, asAddr, h, Result.andThen]
  rw [e]
  simp [typeInfo, hi, hmm, hp, hf, follow, hrec, Result.andThen]
theorem m_swap {a : Addr} {v : Value} {w : World} (h : w.cell? a = some v) : (method 282 92 (.pointer (some a)) "Swap").run Try.prog w = .ok (160, v) w := by
  have hm : ((Try.prog.info? 92).bind fun i => (i.methods.find? (·.name == "Swap")).map fun m => (m.path, m.func)) = some (#[], some (160, false)) := by kernel_rfl
  obtain ⟨i, hi, hm1⟩ := Option.bind_eq_some_iff.1 hm
  obtain ⟨m, hmm, hm2⟩ := Option.map_eq_some_iff.1 hm1
  simp only [Prod.mk.injEq] at hm2
  obtain ⟨hp, hf⟩ := hm2
  have e : (method 282 92 (.pointer (some a)) "Swap") = (do
      let some m := (← typeInfo 92).methods.find? (·.name == "Swap") | stuck "invoke: the dynamic type lacks the method"
      let (xt, x) ← follow m.path.toList 92 (.val (.pointer (some a)))
      match m.func with
      | none =>
        match ← x.get xt with
        | .iface t' v' => method 281 t' v' "Swap"
        | .nilIface => runtimePanic .nilDeref
        | _ => stuck "method row: interface value expected"
      | some (f, pointerReceiver) =>
        pure (f, ← receiverAt xt x pointerReceiver (if m.path.isEmpty then some (("Swap".splitOn ".").getLastD "Swap") else none))) := rfl
  have hu := run_underlying (P := Try.prog) Try.underlying92
  have ha : ∀ w0 : World, (isAgg 88).run Try.prog w0 = .ok false w0 := fun w0 => by kernel_rfl
  have hnc : ∀ (s : String) (w0 : World), (Builtin.ssaWrapNilChk_ #[92] 92 #[.pointer (some a), strVal "", strVal s]).run Try.prog w0 = .ok (.pointer (some a)) w0 := fun s w0 => rfl
  have hrec : ∀ s, (receiverAt 92 (.val (.pointer (some a))) false (some s)).run Try.prog w = .ok v w := fun s => by
    unfold receiverAt
    simp [hu, Place.get, hnc, loadVar, ha, asAddr, h, Result.andThen]
  rw [e]
  simp [typeInfo, hi, hmm, hp, hf, follow, hrec, Result.andThen]

theorem Touch.refl (q : Nat) (v : Value) (w : World) : Touch q v w w := ⟨rfl, rfl, rfl, Nat.le_refl _, fun _ _ _ _ => rfl⟩
theorem Touch.trans {q : Nat} {v : Value} {a b c : World} (h : Touch q v a b) (k : Touch q v b c) : Touch q v a c :=
  ⟨k.os.trans h.os, k.tape.trans h.tape, k.output.trans h.output, Nat.le_trans h.size k.size, fun i hi h1 h2 => (k.block i (Nat.lt_of_lt_of_le hi h.size) h1 h2).trans (h.block i hi h1 h2)⟩
theorem Touch.below {q : Nat} {v : Value} {a b c : World} (h : Touch q v a b) (k : Below b.heap.size b c) : Touch q v a c :=
  h.trans ⟨k.os, k.tape, k.output, k.size, fun i hi _ _ => k.block i hi⟩
theorem Touch.grown {q : Nat} {v : Value} {a b c : World} (h : Touch q v a b) (k : b.grownBy c v.ownBlock) : Touch q v a c :=
  h.trans ⟨k.os, k.tape, k.output, k.size, fun i hi _ h2 => k.block i hi (fun e => h2 e.symm)⟩

theorem QAt.cell {w : World} {q B : Nat} {v : Value} {es : List PE} (h : QAt w q B v es) : w.cell? ⟨q, 0, none⟩ = some v := blkc0 h.blk 0 v rfl
theorem QAt.frozen {w : World} {q B : Nat} {v : Value} {es : List PE} (h : QAt w q B v es) : w.frozen? ⟨q, 0, none⟩ = false := blkf0 h.blk 0
theorem QAt.lt {w : World} {q B : Nat} {v : Value} {es : List PE} (h : QAt w q B v es) : q < w.heap.size := heap_lt0 h.blk
theorem QAt.below {w w' : World} {q B : Nat} {v : Value} {es : List PE} (h : QAt w q B v es) (hb : Below w.heap.size w w') : QAt w' q B v es := ⟨(hb.block q h.lt).trans h.blk, own_below0 h.own hb, h.hB⟩
theorem QAt.swap {w w' : World} {q B g n c : Nat} {es es' : List PE} (h : QAt w q B (.slice (some ⟨g, 0, none⟩) n c) es) (ho : w'.ownsRow B 39 2 (.slice (some ⟨g, 0, none⟩) n c) es'.length (pcells es')) (hg : w.grownBy w' (some g)) (hgq : g ≠ q) : QAt w' q B (.slice (some ⟨g, 0, none⟩) n c) es' :=
  ⟨(hg.block q h.lt (fun e => hgq (by simpa using e.symm))).trans h.blk, ho, h.hB⟩

def UpPost (q B : Nat) (v : Value) (es : List PE) (w : World) (e : Ending) (w' : World) : Prop :=
  ∃ es' : List PE, e = .returned (.tuple #[]) ∧ QAt w' q B v es' ∧ es'.Perm es ∧ HeapN es' es'.length ∧ Touch q v w w'

set_option maxHeartbeats 2000000 in
theorem up_any (q B : Nat) (v : Value) (es : List PE) (j : Nat) (w : World) (hq : QAt w q B v es) (hu : UpInv es j) (hj : j < es.length) (hm : es.length ≤ 4611686018427387903) :
    Calls Try.prog 92 #[.iface 92 (.pointer (some ⟨q, 0, none⟩)), .int .i64 j] w (UpPost q B v es w) := by
  obtain ⟨g, c, cur, rfl, hBg, hgl, _, hnc, _, _, _⟩ := own_open hq.own (by omega)
  have hgq : g ≠ q := by have := hq.hB; omega
  obtain ⟨n, hn⟩ : ∃ n, n = es.length := ⟨_, rfl⟩
  rw [← hn] at hq hnc ⊢
  have HQ := Lib.hid hq
  have HU := Lib.hid hu
  have HN := Lib.hid hn
  have hjn : j < n := by omega
  have hmn : n ≤ 4611686018427387903 := by omega
  clear hq hu hn hj hm hgl
  go_enter Try.func92, Try.ntmps92
  go_wp2_with fail
  go_loopw [1] (fun i wr => ∃ (k : Nat) (es' : List PE), i = .int .i64 k ∧ k < n ∧ Hid (QAt wr q B (.slice (some ⟨g, 0, none⟩) n c) es') ∧ Hid (es'.Perm es) ∧ Hid (UpInv es' k) ∧ Touch q (.slice (some ⟨g, 0, none⟩) n c) w wr) (fun i _ => (intOf i).toNat)
  case atStart => exact ⟨j, es, rfl, hjn, HQ, List.Perm.refl _, HU, Touch.refl _ _ _⟩
  case round =>
    clear HQ HU hjn
    obtain ⟨k, es', rfl, hk, hQ, hP, hU, hT⟩ := hrel
    have hl : es'.length = n := by rw [hP.out.length_eq]; exact HN.out.symm
    have HL := Lib.hid hl
    clear hl
    have hc := hQ.out.cell
    have hnil := nil_ptr "Less" 0 (.inl rfl) ⟨q, 0, none⟩ wr
    have hLs := m_less hc
    by_cases h0 : k = 0
    · subst h0
      go_wp2_with fail
      go_end0
      exact ⟨es', rfl, hQ.out, hP.out, up_end hU.out (.inl rfl), hT⟩
    · obtain ⟨p, hp, hp2⟩ : ∃ p : Nat, ((k : Int) - 1) / 2 = p ∧ p = (k - 1) / 2 := ⟨(k - 1) / 2, by omega, rfl⟩
      have hpk : ((p : Int) == (k : Int)) = false := by simp; omega
      have hpk' : ¬ ((p : Int) = (k : Int)) := by omega
      have hk1 : (0 : Int) ≤ (k : Int) - 1 := by omega
      obtain ⟨x, hx⟩ : ∃ x, es'[k]? = some x := ⟨es'[k]'(by rw [HL.out]; exact hk), by simp⟩
      obtain ⟨y, hy⟩ : ∃ y, es'[p]? = some y := ⟨es'[p]'(by rw [HL.out]; omega), by simp⟩
      have hrd := (own_reads1 (hQ.out.own)).1
      have HLQ := fun W hr => lessQ es' k p x y hx hy (some ⟨g, 0, none⟩) c W hr (by rw [HL.out]; exact hnc) (by rw [HL.out]; exact hmn)
      have HSW := fun W ho => swapQ es' p k y x hy hx B g c W ho (by rw [HL.out]; exact hmn)
      rw [HL.out] at HLQ HSW
      have HX := Lib.hid hx
      have HY := Lib.hid hy
      have HP2 := Lib.hid hp2
      clear hx hy hp2
      by_cases hlt : cmpE x.1 x.2 y.1 y.2 < 0
      · simp only [hlt, decide_true] at HLQ
        have HLT : Hid (LtE x y) := (cmpE_lt _ _ _ _).1 hlt
        clear hlt
        go_wp2_with (first
          | (go_at_call 159; go_loud (refine (HLQ _ hrd).mono ?_; rintro e w1 ⟨rfl, hb1⟩; have hQ1 := Lib.hid (hQ.out.below hb1); have hSm := m_swap hQ1.out.cell; have hnil2 := nil_ptr "Swap" 0 (.inr (.inr (.inl rfl))) ⟨q, 0, none⟩ w1; clear hc hLs hnil))
          | (go_at_call 160; go_loud (refine (HSW _ ?_).mono ?_; (have h9 := hQ1.out.own; rw [HL.out] at h9; exact h9); rintro e w2 ⟨rfl, ho2, hg2⟩)))
        go_roundw
        case rel =>
          refine ⟨p, swapL es' p k, rfl, by omega, QAt.swap hQ1.out (by rw [swapL_length, HL.out]; exact ho2) hg2 hgq, (swapL_perm _ _ _).trans hP.out, ?_, (hT.below hb1).grown hg2⟩
          have h9 := up_step hU.out (by omega) (by rw [HL.out]; exact hk) HX.out (by rw [← HP2.out]; exact HY.out) HLT.out
          rw [← HP2.out] at h9
          exact h9
        case measure => simp [intOf]; omega
      · simp only [hlt, decide_false] at HLQ
        have HLT : Hid (¬ LtE x y) := fun h => hlt ((cmpE_lt _ _ _ _).2 h)
        clear hlt
        go_wp2_with (first
          | (go_at_call 159; go_loud (refine (HLQ _ hrd).mono ?_; rintro e w1 ⟨rfl, hb1⟩)))
        go_end0
        refine ⟨es', rfl, hQ.out.below hb1, hP.out, up_end hU.out (.inr ?_), hT.below hb1⟩
        intro a b ha hb
        rw [HX.out] at ha; cases ha
        rw [← HP2.out, HY.out] at hb; cases hb
        exact HLT.out
end Go.Proofs.Ytglhdoibglafbaa

/- The walk of heap's down over a queue's entries. -/
namespace Go.Proofs.Ytglhdoibglafbaa
open Go Go.RowKit
set_option maxRecDepth 100000
set_option linter.unusedVariables false
set_option linter.unusedSimpArgs false

def DownPost (q B : Nat) (v : Value) (es : List PE) (m : Nat) (w : World) (e : Ending) (w' : World) : Prop :=
  ∃ (es' : List PE) (b : Bool), e = .returned (.bool b) ∧ QAt w' q B v es' ∧ es'.Perm es ∧ HeapN es' m ∧ (∀ t, m ≤ t → es'[t]? = es[t]?) ∧ Touch q v w w'

theorem swapL_out {l : List PE} {i j t : Nat} (hi : t ≠ i) (hj : t ≠ j) : (swapL l i j)[t]? = l[t]? := by
  unfold swapL
  split
  · rw [List.getElem?_set, if_neg (fun h => hj h.symm), List.getElem?_set, if_neg (fun h => hi h.symm)]
  · rfl

set_option maxHeartbeats 4000000 in
theorem down_any (q B : Nat) (v : Value) (es : List PE) (m : Nat) (w : World) (hq : QAt w q B v es) (hu : DownInv es m 0) (hmn : m < es.length) (hm : es.length ≤ 4000000) :
    Calls Try.prog 93 #[.iface 92 (.pointer (some ⟨q, 0, none⟩)), .int .i64 0, .int .i64 m] w (DownPost q B v es m w) := by
  obtain ⟨g, c, cur, rfl, hBg, hgl, _, hnc, _, _, _⟩ := own_open hq.own (by omega)
  have hgq : g ≠ q := by have := hq.hB; omega
  obtain ⟨n, hn⟩ : ∃ n, n = es.length := ⟨_, rfl⟩
  rw [← hn] at hq hnc ⊢
  have HQ := Lib.hid hq
  have HU := Lib.hid hu
  have HN := Lib.hid hn
  have hmn' : m < n := by omega
  have hm4 : n ≤ 4000000 := by omega
  clear hq hu hn hm hgl hmn
  go_enter Try.func93, Try.ntmps93
  go_wp2_with fail
  go_loopw [7] (fun i wr => ∃ (k : Nat) (es' : List PE), i = .int .i64 k ∧ k < n ∧ Hid (QAt wr q B (.slice (some ⟨g, 0, none⟩) n c) es') ∧ Hid (es'.Perm es) ∧ Hid (DownInv es' m k) ∧ Hid (∀ t, m ≤ t → es'[t]? = es[t]?) ∧ Touch q (.slice (some ⟨g, 0, none⟩) n c) w wr) (fun i _ => n - (intOf i).toNat)
  case atStart => exact ⟨0, es, rfl, by omega, HQ, List.Perm.refl _, HU, fun _ _ => rfl, Touch.refl _ _ _⟩
  case round =>
    clear HQ HU
    obtain ⟨k, es', rfl, hk, hQ, hP, hU, hO, hT⟩ := hrel
    have hl : es'.length = n := by rw [hP.out.length_eq]; exact HN.out.symm
    have HL := Lib.hid hl
    clear hl
    have hc := hQ.out.cell
    have hnil := nil_ptr "Less" 0 (.inl rfl) ⟨q, 0, none⟩ wr
    have hLs := m_less hc
    have hrd := (own_reads1 (hQ.out.own)).1
    have c1 : ((2 * k + 2 : Nat) : Int) = 2 * (k : Int) + 1 + 1 := by omega
    have c2 : ((2 * k + 1 : Nat) : Int) = 2 * (k : Int) + 1 := by omega
    have C1 := Lib.hid c1
    have C2 := Lib.hid c2
    clear c1 c2
    by_cases h1 : 2 * k + 1 < m
    · obtain ⟨x, hx⟩ : ∃ x, es'[k]? = some x := ⟨es'[k]'(by rw [HL.out]; exact hk), by simp⟩
      obtain ⟨y1, hy1⟩ : ∃ y, es'[2 * k + 1]? = some y := ⟨es'[2 * k + 1]'(by rw [HL.out]; omega), by simp⟩
      have HX := Lib.hid hx
      have HY1 := Lib.hid hy1
      clear hx hy1
      have e1 : ¬ ((m : Int) ≤ 2 * (k : Int) + 1) := by omega
      have e1' : 2 * (k : Int) + 1 < (m : Int) := by omega
      have e2 : ¬ (2 * (k : Int) + 1 < 0) := by omega
      by_cases h2 : 2 * k + 2 < m
      · obtain ⟨y2, hy2⟩ : ∃ y, es'[2 * k + 2]? = some y := ⟨es'[2 * k + 2]'(by rw [HL.out]; omega), by simp⟩
        have HY2 := Lib.hid hy2
        clear hy2
        have e3 : 2 * (k : Int) + 1 + 1 < (m : Int) := by omega
        have HL1 := fun W hr => lessQ es' (2 * k + 2) (2 * k + 1) y2 y1 HY2.out HY1.out (some ⟨g, 0, none⟩) c W hr (by rw [HL.out]; exact hnc) (by rw [HL.out]; omega)
        rw [HL.out, C1.out, C2.out] at HL1
        by_cases hl21 : cmpE y2.1 y2.2 y1.1 y1.2 < 0
        · simp only [hl21, decide_true] at HL1
          have HMIN : Hid (∀ kk z, 0 < kk → kk < m → (kk - 1) / 2 = k → es'[kk]? = some z → ¬ LtE z y2) := by
            intro kk z h0 hkm hpk hz
            have hh : LtE y2 y1 := (cmpE_lt _ _ _ _).1 hl21
            have : kk = 2 * k + 1 ∨ kk = 2 * k + 2 := by omega
            rcases this with rfl | rfl
            · rw [HY1.out] at hz; cases hz; exact hh.asymm
            · rw [HY2.out] at hz; cases hz; exact LtE.irrefl _
          clear hl21
          (have HL2 := fun W hr => lessQ es' (2 * k + 2) k y2 x HY2.out HX.out (some ⟨g, 0, none⟩) c W hr (by rw [HL.out]; exact hnc) (by rw [HL.out]; omega)
           have HSW := fun W ho => swapQ es' k (2 * k + 2) x y2 HX.out HY2.out B g c W ho (by rw [HL.out]; omega)
           rw [HL.out, C1.out] at HL2 HSW
           by_cases hlt : cmpE (y2).1 (y2).2 x.1 x.2 < 0
           · simp only [hlt, decide_true] at HL2
             have HLT : Hid (LtE y2 x) := (cmpE_lt _ _ _ _).1 hlt
             clear hlt
             go_wp2_with (first | (go_at_call 159; go_loud ((with_reducible refine (HL1 _ hrd).mono ?_); rintro e w1 ⟨rfl, hb1⟩; have hQ1 := Lib.hid (hQ.out.below hb1); have hT1 := hT.below hb1; have hLs1 := m_less hQ1.out.cell; have hnil1 := nil_ptr "Less" 0 (.inl rfl) ⟨q, 0, none⟩ w1; have hrd1 := hrd.below hb1; clear hc hLs hnil HL1)) | (go_at_call 159; go_loud ((with_reducible refine (HL2 _ hrd1).mono ?_); rintro e w2 ⟨rfl, hb2⟩; have hQ2 := Lib.hid (hQ1.out.below hb2); have hT2 := hT1.below hb2; have hSm := m_swap hQ2.out.cell; have hnil2 := nil_ptr "Swap" 0 (.inr (.inr (.inl rfl))) ⟨q, 0, none⟩ w2; clear hLs1 hnil1 HL2)) | (go_at_call 160; go_loud ((with_reducible refine (HSW _ ?_).mono ?_); (have h9 := hQ2.out.own; rw [HL.out] at h9; exact h9); rintro e w3 ⟨rfl, ho3, hg3⟩)))
             go_roundw
             case rel =>
               refine ⟨(2 * k + 2), swapL es' k (2 * k + 2), by rw [C1.out], by omega, QAt.swap hQ2.out (by rw [swapL_length, HL.out]; exact ho3) hg3 hgq, (swapL_perm _ _ _).trans hP.out, ?_, ?_, hT2.grown hg3⟩
               · exact down_step hU.out (by rw [HL.out]; omega) (by omega) (by omega) (by omega) HX.out HY2.out HLT.out HMIN.out
               · intro t ht
                 rw [swapL_out (by omega) (by omega)]
                 exact hO.out t ht
             case measure => simp [intOf]; omega
           · simp only [hlt, decide_false] at HL2
             have HLT : Hid (¬ LtE y2 x) := fun h => hlt ((cmpE_lt _ _ _ _).2 h)
             clear hlt
             go_wp2_with (first | (go_at_call 159; go_loud ((with_reducible refine (HL1 _ hrd).mono ?_); rintro e w1 ⟨rfl, hb1⟩; have hQ1 := Lib.hid (hQ.out.below hb1); have hT1 := hT.below hb1; have hLs1 := m_less hQ1.out.cell; have hnil1 := nil_ptr "Less" 0 (.inl rfl) ⟨q, 0, none⟩ w1; have hrd1 := hrd.below hb1; clear hc hLs hnil HL1)) | (go_at_call 159; go_loud ((with_reducible refine (HL2 _ hrd1).mono ?_); rintro e w2 ⟨rfl, hb2⟩; have hQ2 := Lib.hid (hQ1.out.below hb2); have hT2 := hT1.below hb2; have hSm := m_swap hQ2.out.cell; have hnil2 := nil_ptr "Swap" 0 (.inr (.inr (.inl rfl))) ⟨q, 0, none⟩ w2; clear hLs1 hnil1 HL2)))
             all_goals
               go_ret
               refine ⟨es', _, rfl, hQ2.out, hP.out, down_end hU.out ?_, hO.out, hT2⟩
               intro kk h0 hkm hpk a b ha hb
               rw [HX.out] at hb; cases hb
               exact le_trans' HLT.out (HMIN.out kk a h0 hkm hpk ha))
        · simp only [hl21, decide_false] at HL1
          have HMIN : Hid (∀ kk z, 0 < kk → kk < m → (kk - 1) / 2 = k → es'[kk]? = some z → ¬ LtE z y1) := by
            intro kk z h0 hkm hpk hz
            have hh : ¬ LtE y2 y1 := fun h => hl21 ((cmpE_lt _ _ _ _).2 h)
            have : kk = 2 * k + 1 ∨ kk = 2 * k + 2 := by omega
            rcases this with rfl | rfl
            · rw [HY1.out] at hz; cases hz; exact LtE.irrefl _
            · rw [HY2.out] at hz; cases hz; exact hh
          clear hl21
          (have HL2 := fun W hr => lessQ es' (2 * k + 1) k y1 x HY1.out HX.out (some ⟨g, 0, none⟩) c W hr (by rw [HL.out]; exact hnc) (by rw [HL.out]; omega)
           have HSW := fun W ho => swapQ es' k (2 * k + 1) x y1 HX.out HY1.out B g c W ho (by rw [HL.out]; omega)
           rw [HL.out, C2.out] at HL2 HSW
           by_cases hlt : cmpE (y1).1 (y1).2 x.1 x.2 < 0
           · simp only [hlt, decide_true] at HL2
             have HLT : Hid (LtE y1 x) := (cmpE_lt _ _ _ _).1 hlt
             clear hlt
             go_wp2_with (first | (go_at_call 159; go_loud ((with_reducible refine (HL1 _ hrd).mono ?_); rintro e w1 ⟨rfl, hb1⟩; have hQ1 := Lib.hid (hQ.out.below hb1); have hT1 := hT.below hb1; have hLs1 := m_less hQ1.out.cell; have hnil1 := nil_ptr "Less" 0 (.inl rfl) ⟨q, 0, none⟩ w1; have hrd1 := hrd.below hb1; clear hc hLs hnil HL1)) | (go_at_call 159; go_loud ((with_reducible refine (HL2 _ hrd1).mono ?_); rintro e w2 ⟨rfl, hb2⟩; have hQ2 := Lib.hid (hQ1.out.below hb2); have hT2 := hT1.below hb2; have hSm := m_swap hQ2.out.cell; have hnil2 := nil_ptr "Swap" 0 (.inr (.inr (.inl rfl))) ⟨q, 0, none⟩ w2; clear hLs1 hnil1 HL2)) | (go_at_call 160; go_loud ((with_reducible refine (HSW _ ?_).mono ?_); (have h9 := hQ2.out.own; rw [HL.out] at h9; exact h9); rintro e w3 ⟨rfl, ho3, hg3⟩)))
             go_roundw
             case rel =>
               refine ⟨(2 * k + 1), swapL es' k (2 * k + 1), by rw [C2.out], by omega, QAt.swap hQ2.out (by rw [swapL_length, HL.out]; exact ho3) hg3 hgq, (swapL_perm _ _ _).trans hP.out, ?_, ?_, hT2.grown hg3⟩
               · exact down_step hU.out (by rw [HL.out]; omega) (by omega) (by omega) (by omega) HX.out HY1.out HLT.out HMIN.out
               · intro t ht
                 rw [swapL_out (by omega) (by omega)]
                 exact hO.out t ht
             case measure => simp [intOf]; omega
           · simp only [hlt, decide_false] at HL2
             have HLT : Hid (¬ LtE y1 x) := fun h => hlt ((cmpE_lt _ _ _ _).2 h)
             clear hlt
             go_wp2_with (first | (go_at_call 159; go_loud ((with_reducible refine (HL1 _ hrd).mono ?_); rintro e w1 ⟨rfl, hb1⟩; have hQ1 := Lib.hid (hQ.out.below hb1); have hT1 := hT.below hb1; have hLs1 := m_less hQ1.out.cell; have hnil1 := nil_ptr "Less" 0 (.inl rfl) ⟨q, 0, none⟩ w1; have hrd1 := hrd.below hb1; clear hc hLs hnil HL1)) | (go_at_call 159; go_loud ((with_reducible refine (HL2 _ hrd1).mono ?_); rintro e w2 ⟨rfl, hb2⟩; have hQ2 := Lib.hid (hQ1.out.below hb2); have hT2 := hT1.below hb2; have hSm := m_swap hQ2.out.cell; have hnil2 := nil_ptr "Swap" 0 (.inr (.inr (.inl rfl))) ⟨q, 0, none⟩ w2; clear hLs1 hnil1 HL2)))
             all_goals
               go_ret
               refine ⟨es', _, rfl, hQ2.out, hP.out, down_end hU.out ?_, hO.out, hT2⟩
               intro kk h0 hkm hpk a b ha hb
               rw [HX.out] at hb; cases hb
               exact le_trans' HLT.out (HMIN.out kk a h0 hkm hpk ha))
      · have e3 : ¬ (2 * (k : Int) + 1 + 1 < (m : Int)) := by omega
        have e3' : (m : Int) ≤ 2 * (k : Int) + 1 + 1 := by omega
        have HMIN : Hid (∀ kk z, 0 < kk → kk < m → (kk - 1) / 2 = k → es'[kk]? = some z → ¬ LtE z y1) := by
          intro kk z h0 hkm hpk hz
          have : kk = 2 * k + 1 := by omega
          subst this
          rw [HY1.out] at hz; cases hz; exact LtE.irrefl _
        have hQ1 := hQ
        have hT1 := hT
        have hLs1 := hLs
        have hnil1 := hnil
        have hrd1 := hrd
        clear hLs hnil
        (have HL2 := fun W hr => lessQ es' (2 * k + 1) k y1 x HY1.out HX.out (some ⟨g, 0, none⟩) c W hr (by rw [HL.out]; exact hnc) (by rw [HL.out]; omega)
         have HSW := fun W ho => swapQ es' k (2 * k + 1) x y1 HX.out HY1.out B g c W ho (by rw [HL.out]; omega)
         rw [HL.out, C2.out] at HL2 HSW
         by_cases hlt : cmpE (y1).1 (y1).2 x.1 x.2 < 0
         · simp only [hlt, decide_true] at HL2
           have HLT : Hid (LtE y1 x) := (cmpE_lt _ _ _ _).1 hlt
           clear hlt
           go_wp2_with (first | fail | (go_at_call 159; go_loud ((with_reducible refine (HL2 _ hrd1).mono ?_); rintro e w2 ⟨rfl, hb2⟩; have hQ2 := Lib.hid (hQ1.out.below hb2); have hT2 := hT1.below hb2; have hSm := m_swap hQ2.out.cell; have hnil2 := nil_ptr "Swap" 0 (.inr (.inr (.inl rfl))) ⟨q, 0, none⟩ w2; clear hLs1 hnil1 HL2)) | (go_at_call 160; go_loud ((with_reducible refine (HSW _ ?_).mono ?_); (have h9 := hQ2.out.own; rw [HL.out] at h9; exact h9); rintro e w3 ⟨rfl, ho3, hg3⟩)))
           go_roundw
           case rel =>
             refine ⟨(2 * k + 1), swapL es' k (2 * k + 1), by rw [C2.out], by omega, QAt.swap hQ2.out (by rw [swapL_length, HL.out]; exact ho3) hg3 hgq, (swapL_perm _ _ _).trans hP.out, ?_, ?_, hT2.grown hg3⟩
             · exact down_step hU.out (by rw [HL.out]; omega) (by omega) (by omega) (by omega) HX.out HY1.out HLT.out HMIN.out
             · intro t ht
               rw [swapL_out (by omega) (by omega)]
               exact hO.out t ht
           case measure => simp [intOf]; omega
         · simp only [hlt, decide_false] at HL2
           have HLT : Hid (¬ LtE y1 x) := fun h => hlt ((cmpE_lt _ _ _ _).2 h)
           clear hlt
           go_wp2_with (first | fail | (go_at_call 159; go_loud ((with_reducible refine (HL2 _ hrd1).mono ?_); rintro e w2 ⟨rfl, hb2⟩; have hQ2 := Lib.hid (hQ1.out.below hb2); have hT2 := hT1.below hb2; have hSm := m_swap hQ2.out.cell; have hnil2 := nil_ptr "Swap" 0 (.inr (.inr (.inl rfl))) ⟨q, 0, none⟩ w2; clear hLs1 hnil1 HL2)))
           all_goals
             go_ret
             refine ⟨es', _, rfl, hQ2.out, hP.out, down_end hU.out ?_, hO.out, hT2⟩
             intro kk h0 hkm hpk a b ha hb
             rw [HX.out] at hb; cases hb
             exact le_trans' HLT.out (HMIN.out kk a h0 hkm hpk ha))
    · have e1 : (m : Int) ≤ 2 * (k : Int) + 1 := by omega
      go_wp2_with fail
      all_goals
        go_ret
        refine ⟨es', _, rfl, hQ.out, hP.out, down_end hU.out ?_, hO.out, hT⟩
        intro kk h0 hkm hpk
        omega
end Go.Proofs.Ytglhdoibglafbaa
