/- Walks of heap's up and down over a queue's entries. -/
import Derived.Test.YtglhdoibglafbaaQ1
import Derived.Test.YtglhdoibglafbaaH2
import Derived.Test.YtglhdoibglafbaaBC
namespace Go.Proofs.Ytglhdoibglafbaa
open Go Go.RowKit
set_option maxRecDepth 100000
set_option linter.unusedVariables false

/-- A queue at block q: a heap's row of the call's own. -/
structure QAt (w : World) (q B : Nat) (v : Value) (es : List PE) : Prop where
  blk : w.heap[q]? = some (.cells #[v] 90 (0, 0))
  own : w.ownsRow B 39 2 v es.length (pcells es)
  hB : q < B
/-- Nothing but the queue, and its row, has turned. -/
structure Touch (q : Nat) (v : Value) (w w' : World) : Prop where
  os : w'.os = w.os
  tape : w'.tape = w.tape
  output : w'.output = w.output
  size : w.heap.size ≤ w'.heap.size
  block : ∀ k, k < w.heap.size → k ≠ q → v.ownBlock ≠ some k → w'.heap[k]? = w.heap[k]?

theorem nil_ptr (nm : String) (k : Nat) (h : nm = "Less" ∨ nm = "Len" ∨ nm = "Swap" ∨ nm = "Push" ∨ nm = "Pop") (a : Addr) (w : World) : (nilAhead 282 92 (.pointer (some a)) nm).run Try.prog w = .ok (some false) w := by
  rcases h with rfl | rfl | rfl | rfl | rfl <;> kernel_rfl
theorem m_push (a : Addr) (w : World) : (method 282 92 (.pointer (some a)) "Push").run Try.prog w = .ok (162, .pointer (some a)) w := by kernel_rfl
theorem m_pop (a : Addr) (w : World) : (method 282 92 (.pointer (some a)) "Pop").run Try.prog w = .ok (161, .pointer (some a)) w := by kernel_rfl
theorem m_less {a : Addr} {v : Value} {w : World} (h : w.cell? a = some v) : (method 282 92 (.pointer (some a)) "Less").run Try.prog w = .ok (159, v) w := by
  have hm : ((Try.prog.info? 92).bind fun i => (i.methods.find? (·.name == "Less")).map fun m => (m.path, m.func)) = some (#[], some (159, false)) := by kernel_rfl
  obtain ⟨i, hi, hm1⟩ := Option.bind_eq_some_iff.1 hm
  obtain ⟨m, hmm, hm2⟩ := Option.map_eq_some_iff.1 hm1
  simp only [Prod.mk.injEq] at hm2
  obtain ⟨hp, hf⟩ := hm2
  have e : (method 282 92 (.pointer (some a)) "Less") = (do
      let some m := (← typeInfo 92).methods.find? (·.name == "Less") | stuck "invoke: the dynamic type lacks the method"
      let (xt, x) ← follow m.path.toList 92 (.val (.pointer (some a)))
      match m.func with
      | none =>
        match ← x.get xt with
        | .iface t' v' => method 281 t' v' "Less"
        | .nilIface => runtimePanic .nilDeref
        | _ => stuck "method row: interface value expected"
      | some (f, pointerReceiver) =>
        pure (f, ← receiverAt xt x pointerReceiver (if m.path.isEmpty then some (("Less".splitOn ".").getLastD "Less") else none))) := rfl
  have hu := run_underlying (P := Try.prog) Try.underlying92
  have ha : ∀ w0 : World, (isAgg 88).run Try.prog w0 = .ok false w0 := fun w0 => by kernel_rfl
  have hnc : ∀ (s : String) (w0 : World), (Builtin.ssaWrapNilChk_ #[92] 92 #[.pointer (some a), strVal "", strVal s]).run Try.prog w0 = .ok (.pointer (some a)) w0 := fun s w0 => rfl
  have hrec : ∀ s, (receiverAt 92 (.val (.pointer (some a))) false (some s)).run Try.prog w = .ok v w := fun s => by
    unfold receiverAt
    simp [hu, Place.get, hnc, loadVar, ha, asAddr, h, Result.andThen]
  rw [e]
  simp [typeInfo, hi, hmm, hp, hf, follow, hrec, Result.andThen]
theorem m_len {a : Addr} {v : Value} {w : World} (h : w.cell? a = some v) : (method 282 92 (.pointer (some a)) "Len").run Try.prog w = .ok (158, v) w := by
  have hm : ((Try.prog.info? 92).bind fun i => (i.methods.find? (·.name == "Len")).map fun m => (m.path, m.func)) = some (#[], some (158, false)) := by kernel_rfl
  obtain ⟨i, hi, hm1⟩ := Option.bind_eq_some_iff.1 hm
  obtain ⟨m, hmm, hm2⟩ := Option.map_eq_some_iff.1 hm1
  simp only [Prod.mk.injEq] at hm2
  obtain ⟨hp, hf⟩ := hm2
  have e : (method 282 92 (.pointer (some a)) "Len") = (do
      let some m := (← typeInfo 92).methods.find? (·.name == "Len") | stuck "invoke: the dynamic type lacks the method"
      let (xt, x) ← follow m.path.toList 92 (.val (.pointer (some a)))
      match m.func with
      | none =>
        match ← x.get xt with
        | .iface t' v' => method 281 t' v' "Len"
        | .nilIface => runtimePanic .nilDeref
        | _ => stuck "method row: interface value expected"
      | some (f, pointerReceiver) =>
        pure (f, ← receiverAt xt x pointerReceiver (if m.path.isEmpty then some (("Len".splitOn ".").getLastD "Len") else none))) := rfl
  have hu := run_underlying (P := Try.prog) Try.underlying92
  have ha : ∀ w0 : World, (isAgg 88).run Try.prog w0 = .ok false w0 := fun w0 => by kernel_rfl
  have hnc : ∀ (s : String) (w0 : World), (Builtin.ssaWrapNilChk_ #[92] 92 #[.pointer (some a), strVal "", strVal s]).run Try.prog w0 = .ok (.pointer (some a)) w0 := fun s w0 => rfl
  have hrec : ∀ s, (receiverAt 92 (.val (.pointer (some a))) false (some s)).run Try.prog w = .ok v w := fun s => by
    unfold receiverAt
    simp [hu, Place.get, hnc, loadVar, ha, asAddr, h, Result.andThen]
  rw [e]
  simp [typeInfo, hi, hmm, hp, hf, follow, hrec, Result.andThen]
theorem m_swap {a : Addr} {v : Value} {w : World} (h : w.cell? a = some v) : (method 282 92 (.pointer (some a)) "Swap").run Try.prog w = .ok (160, v) w := by
  have hm : ((Try.prog.info? 92).bind fun i => (i.methods.find? (·.name == "Swap")).map fun m => (m.path, m.func)) = some (#[], some (160, false)) := by kernel_rfl
  obtain ⟨i, hi, hm1⟩ := Option.bind_eq_some_iff.1 hm
  obtain ⟨m, hmm, hm2⟩ := Option.map_eq_some_iff.1 hm1
  simp only [Prod.mk.injEq] at hm2
  obtain ⟨hp, hf⟩ := hm2
  have e : (method 282 92 (.pointer (some a)) "Swap") = (do
      let some m := (← typeInfo 92).methods.find? (·.name == "Swap") | stuck "invoke: the dynamic type lacks the method"
      let (xt, x) ← follow m.path.toList 92 (.val (.pointer (some a)))
      match m.func with
      | none =>
        match ← x.get xt with
        | .iface t' v' => method 281 t' v' "Swap"
        | .nilIface => runtimePanic .nilDeref
        | _ => stuck "method row: interface value expected"
      | some (f, pointerReceiver) =>
        pure (f, ← receiverAt xt x pointerReceiver (if m.path.isEmpty then some (("Swap".splitOn ".").getLastD "Swap") else none))) := rfl
  have hu := run_underlying (P := Try.prog) Try.underlying92
  have ha : ∀ w0 : World, (isAgg 88).run Try.prog w0 = .ok false w0 := fun w0 => by kernel_rfl
  have hnc : ∀ (s : String) (w0 : World), (Builtin.ssaWrapNilChk_ #[92] 92 #[.pointer (some a), strVal "", strVal s]).run Try.prog w0 = .ok (.pointer (some a)) w0 := fun s w0 => rfl
  have hrec : ∀ s, (receiverAt 92 (.val (.pointer (some a))) false (some s)).run Try.prog w = .ok v w := fun s => by
    unfold receiverAt
    simp [hu, Place.get, hnc, loadVar, ha, asAddr, h, Result.andThen]
  rw [e]
  simp [typeInfo, hi, hmm, hp, hf, follow, hrec, Result.andThen]

theorem Touch.refl (q : Nat) (v : Value) (w : World) : Touch q v w w := ⟨rfl, rfl, rfl, Nat.le_refl _, fun _ _ _ _ => rfl⟩
theorem Touch.trans {q : Nat} {v : Value} {a b c : World} (h : Touch q v a b) (k : Touch q v b c) : Touch q v a c :=
  ⟨k.os.trans h.os, k.tape.trans h.tape, k.output.trans h.output, Nat.le_trans h.size k.size, fun i hi h1 h2 => (k.block i (Nat.lt_of_lt_of_le hi h.size) h1 h2).trans (h.block i hi h1 h2)⟩
theorem Touch.below {q : Nat} {v : Value} {a b c : World} (h : Touch q v a b) (k : Below b.heap.size b c) : Touch q v a c :=
  h.trans ⟨k.os, k.tape, k.output, k.size, fun i hi _ _ => k.block i hi⟩
theorem Touch.grown {q : Nat} {v : Value} {a b c : World} (h : Touch q v a b) (k : b.grownBy c v.ownBlock) : Touch q v a c :=
  h.trans ⟨k.os, k.tape, k.output, k.size, fun i hi _ h2 => k.block i hi (fun e => h2 e.symm)⟩

theorem QAt.cell {w : World} {q B : Nat} {v : Value} {es : List PE} (h : QAt w q B v es) : w.cell? ⟨q, 0, none⟩ = some v := blkc0 h.blk 0 v rfl
theorem QAt.frozen {w : World} {q B : Nat} {v : Value} {es : List PE} (h : QAt w q B v es) : w.frozen? ⟨q, 0, none⟩ = false := blkf0 h.blk 0
theorem QAt.lt {w : World} {q B : Nat} {v : Value} {es : List PE} (h : QAt w q B v es) : q < w.heap.size := heap_lt0 h.blk
theorem QAt.below {w w' : World} {q B : Nat} {v : Value} {es : List PE} (h : QAt w q B v es) (hb : Below w.heap.size w w') : QAt w' q B v es := ⟨(hb.block q h.lt).trans h.blk, own_below0 h.own hb, h.hB⟩
theorem QAt.swap {w w' : World} {q B g n c : Nat} {es es' : List PE} (h : QAt w q B (.slice (some ⟨g, 0, none⟩) n c) es) (ho : w'.ownsRow B 39 2 (.slice (some ⟨g, 0, none⟩) n c) es'.length (pcells es')) (hg : w.grownBy w' (some g)) (hgq : g ≠ q) : QAt w' q B (.slice (some ⟨g, 0, none⟩) n c) es' :=
  ⟨(hg.block q h.lt (fun e => hgq (by simpa using e.symm))).trans h.blk, ho, h.hB⟩

def UpPost (q B : Nat) (v : Value) (es : List PE) (w : World) (e : Ending) (w' : World) : Prop :=
  ∃ es' : List PE, e = .returned (.tuple #[]) ∧ QAt w' q B v es' ∧ es'.Perm es ∧ HeapN es' es'.length ∧ Touch q v w w'

set_option maxHeartbeats 2000000 in
theorem up_any (q B : Nat) (v : Value) (es : List PE) (j : Nat) (w : World) (hq : QAt w q B v es) (hu : UpInv es j) (hj : j < es.length) (hm : es.length ≤ 4611686018427387903) :
    Calls Try.prog 92 #[.iface 92 (.pointer (some ⟨q, 0, none⟩)), .int .i64 j] w (UpPost q B v es w) := by
  obtain ⟨g, c, cur, rfl, hBg, hgl, _, hnc, _, _, _⟩ := own_open hq.own (by omega)
  have hgq : g ≠ q := by have := hq.hB; omega
  obtain ⟨n, hn⟩ : ∃ n, n = es.length := ⟨_, rfl⟩
  rw [← hn] at hq hnc ⊢
  have HQ := Lib.hid hq
  have HU := Lib.hid hu
  have HN := Lib.hid hn
  have hjn : j < n := by omega
  have hmn : n ≤ 4611686018427387903 := by omega
  clear hq hu hn hj hm hgl
  go_enter Try.func92, Try.ntmps92
  go_wp2_with fail
  go_loopw [1] (fun i wr => ∃ (k : Nat) (es' : List PE), i = .int .i64 k ∧ k < n ∧ Hid (QAt wr q B (.slice (some ⟨g, 0, none⟩) n c) es') ∧ Hid (es'.Perm es) ∧ Hid (UpInv es' k) ∧ Touch q (.slice (some ⟨g, 0, none⟩) n c) w wr) (fun i _ => (intOf i).toNat)
  case atStart => exact ⟨j, es, rfl, hjn, HQ, List.Perm.refl _, HU, Touch.refl _ _ _⟩
  case round =>
    clear HQ HU hjn
    obtain ⟨k, es', rfl, hk, hQ, hP, hU, hT⟩ := hrel
    have hl : es'.length = n := by rw [hP.out.length_eq]; exact HN.out.symm
    have HL := Lib.hid hl
    clear hl
    have hc := hQ.out.cell
    have hnil := nil_ptr "Less" 0 (.inl rfl) ⟨q, 0, none⟩ wr
    have hLs := m_less hc
    by_cases h0 : k = 0
    · subst h0
      go_wp2_with fail
      go_end0
      exact ⟨es', rfl, hQ.out, hP.out, up_end hU.out (.inl rfl), hT⟩
    · obtain ⟨p, hp, hp2⟩ : ∃ p : Nat, ((k : Int) - 1) / 2 = p ∧ p = (k - 1) / 2 := ⟨(k - 1) / 2, by omega, rfl⟩
      have hpk : ((p : Int) == (k : Int)) = false := by simp; omega
      have hpk' : ¬ ((p : Int) = (k : Int)) := by omega
      have hk1 : (0 : Int) ≤ (k : Int) - 1 := by omega
      obtain ⟨x, hx⟩ : ∃ x, es'[k]? = some x := ⟨es'[k]'(by rw [HL.out]; exact hk), by simp⟩
      obtain ⟨y, hy⟩ : ∃ y, es'[p]? = some y := ⟨es'[p]'(by rw [HL.out]; omega), by simp⟩
      have hrd := (own_reads1 (hQ.out.own)).1
      have HLQ := fun W hr => lessQ es' k p x y hx hy (some ⟨g, 0, none⟩) c W hr (by rw [HL.out]; exact hnc) (by rw [HL.out]; exact hmn)
      have HSW := fun W ho => swapQ es' p k y x hy hx B g c W ho (by rw [HL.out]; exact hmn)
      rw [HL.out] at HLQ HSW
      have HX := Lib.hid hx
      have HY := Lib.hid hy
      have HP2 := Lib.hid hp2
      clear hx hy hp2
      by_cases hlt : cmpE x.1 x.2 y.1 y.2 < 0
      · simp only [hlt, decide_true] at HLQ
        have HLT : Hid (LtE x y) := (cmpE_lt _ _ _ _).1 hlt
        clear hlt
        go_wp2_with (first
          | (go_at_call 159; go_loud (refine (HLQ _ hrd).mono ?_; rintro e w1 ⟨rfl, hb1⟩; have hQ1 := Lib.hid (hQ.out.below hb1); have hSm := m_swap hQ1.out.cell; have hnil2 := nil_ptr "Swap" 0 (.inr (.inr (.inl rfl))) ⟨q, 0, none⟩ w1; clear hc hLs hnil))
          | (go_at_call 160; go_loud (refine (HSW _ ?_).mono ?_; (have h9 := hQ1.out.own; rw [HL.out] at h9; exact h9); rintro e w2 ⟨rfl, ho2, hg2⟩)))
        go_roundw
        case rel =>
          refine ⟨p, swapL es' p k, rfl, by omega, QAt.swap hQ1.out (by rw [swapL_length, HL.out]; exact ho2) hg2 hgq, (swapL_perm _ _ _).trans hP.out, ?_, (hT.below hb1).grown hg2⟩
          have h9 := up_step hU.out (by omega) (by rw [HL.out]; exact hk) HX.out (by rw [← HP2.out]; exact HY.out) HLT.out
          rw [← HP2.out] at h9
          exact h9
        case measure => simp [intOf]; omega
      · simp only [hlt, decide_false] at HLQ
        have HLT : Hid (¬ LtE x y) := fun h => hlt ((cmpE_lt _ _ _ _).2 h)
        clear hlt
        go_wp2_with (first
          | (go_at_call 159; go_loud (refine (HLQ _ hrd).mono ?_; rintro e w1 ⟨rfl, hb1⟩)))
        go_end0
        refine ⟨es', rfl, hQ.out.below hb1, hP.out, up_end hU.out (.inr ?_), hT.below hb1⟩
        intro a b ha hb
        rw [HX.out] at ha; cases ha
        rw [← HP2.out, HY.out] at hb; cases hb
        exact HLT.out
end Go.Proofs.Ytglhdoibglafbaa
