/- Walk of forest.turned. -/
import Derived.Test.YtgddfmfiiodgbaaU16
import Derived.Test.YtgddfmfiiodgbaaU04
import Derived.Test.YtgddfmfiiodgbaaU05
import Derived.Deep.OwnRows
namespace Go.Proofs.Ytgddfmfiiodgbaa
open Go Go.RowKit
set_option maxRecDepth 100000
set_option linter.unusedVariables false
set_option linter.unusedSimpArgs false

/-- The first i places, and the last ones, are exchanged. -/
def RevI (l lc : List Int) (i : Nat) : Prop := lc.length = l.length ∧ ∀ j, j < l.length → lc[j]? = if j < i ∨ l.length < j + i + 1 then l[l.length - 1 - j]? else l[j]?
theorem RevI.start (l : List Int) : RevI l l 0 := ⟨rfl, fun j hj => by rw [if_neg (by omega)]⟩
theorem RevI.done {l lc : List Int} {i : Nat} (h : RevI l lc i) (hi : l.length ≤ 2 * i + 1) : lc = l.reverse := by
  apply List.ext_getElem?
  intro j
  by_cases hj : j < l.length
  · rw [h.2 j hj, List.getElem?_reverse hj]
    by_cases hc : j < i ∨ l.length < j + i + 1
    · rw [if_pos hc]
    · rw [if_neg hc]
      congr 1
      omega
  · rw [List.getElem?_eq_none (by rw [h.1]; omega), List.getElem?_eq_none (by simp; omega)]
theorem RevI.step {l lc : List Int} {i : Nat} (h : RevI l lc i) (hi : 2 * i + 1 < l.length) {x y : Int} (hx : lc[i]? = some x) (hy : lc[l.length - 1 - i]? = some y) : RevI l ((lc.set i y).set (l.length - 1 - i) x) (i + 1) := by
  refine ⟨by simp [h.1], fun j hj => ?_⟩
  have hxi := h.2 i (by omega)
  rw [if_neg (by omega), hx] at hxi
  have hyi := h.2 (l.length - 1 - i) (by omega)
  rw [if_neg (by omega), hy] at hyi
  rw [List.getElem?_set, List.getElem?_set]
  by_cases h1 : l.length - 1 - i = j
  · subst h1
    rw [if_pos rfl, if_pos (by simp [h.1]; omega), if_pos (by omega), hxi]
    congr 1
    omega
  · rw [if_neg h1]
    by_cases h2 : i = j
    · subst h2
      rw [if_pos rfl, if_pos (by rw [h.1]; omega), if_pos (by omega), hyi]
    · rw [if_neg h2, h.2 j hj]
      by_cases hc : j < i ∨ l.length < j + i + 1
      · rw [if_pos hc, if_pos (by omega)]
      · rw [if_neg hc, if_neg (by omega)]

theorem fgrown_set {w w1 : World} {g : Nat} (h : w.grownBy w1 (some g)) (i : Nat) (u : Value) : w.grownBy (w1.setCell ⟨g, i, none⟩ u) (some g) :=
  ⟨h.os, h.tape, h.output, by simpa [World.setCell] using h.size, fun k hk hne => (Below.heap_setCell _ _ _ _ (fun e => hne (by rw [e]))).trans (h.block k hk hne)⟩
theorem grown_drewN {w w1 : World} {r : Option Nat} (h : w.grownBy w1 r) (q : Nat) : w.grownBy (w1.drewN q) r := ⟨h.os, h.tape, h.output, h.size, h.block⟩

set_option maxHeartbeats 1000000 in
theorem fturned_any (l : List Int) (B g c : Nat) (w : World) (ho : w.ownsRow B 3 1 (.slice (some ⟨g, 0, none⟩) l.length c) l.length (icells l)) (hm : l.length ≤ 4611686018427387903) :
    Calls Try.prog 172 #[.slice (some ⟨g, 0, none⟩) l.length c] w fun e w' => e = .returned (.slice (some ⟨g, 0, none⟩) l.length c) ∧ w'.ownsRow B 3 1 (.slice (some ⟨g, 0, none⟩) l.length c) l.length (icells l.reverse) ∧ w.grownBy w' (some g) := by
  have HO := Lib.hid ho
  have hlc : l.length ≤ c := (own_reads1 ho).2.1
  clear ho
  obtain ⟨n, hn⟩ : ∃ n, n = l.length := ⟨_, rfl⟩
  rw [← hn] at HO hm hlc ⊢
  have HN := Lib.hid hn
  clear hn
  go_enter Try.func172, Try.ntmps172
  go_wp2_with fail
  go_loopw [3, 4] (fun p q wr => ∃ (i : Nat) (lc : List Int), p = .int .i64 i ∧ q = .int .i64 ((n : Int) - 1 - i) ∧ Hid (2 * i ≤ n + 1) ∧ Hid (wr.ownsRow B 3 1 (.slice (some ⟨g, 0, none⟩) n c) n (icells lc)) ∧ Hid (RevI l lc i) ∧ Hid (w.grownBy wr (some g))) (fun p _ _ => n - (intOf p).toNat)
  case atStart => exact ⟨0, l, rfl, by simp, by show 2 * 0 ≤ _; omega, HO, RevI.start l, World.grownBy.refl w _⟩
  case round =>
    clear HO
    obtain ⟨i, lc, rfl, rfl, hi, ho, hR, hg⟩ := hrel
    have hi' := hi.out
    by_cases hlt : 2 * i + 1 < n
    · obtain ⟨k, hk⟩ : ∃ k, k = n - 1 - i := ⟨_, rfl⟩
      have hki : ((n : Int) - 1 - (i : Int)) = (k : Int) := by omega
      have hin : i < n := by omega
      have hkn : k < n := by omega
      have hik : i < k := by omega
      have hik' : i ≠ k := by omega
      have hlen : lc.length = n := by rw [hR.out.1]; exact HN.out.symm
      obtain ⟨x, hx⟩ : ∃ x, lc[i]? = some x := ⟨lc[i], by simp [hlen, hin]⟩
      obtain ⟨y, hy⟩ : ∃ y, lc[k]? = some y := ⟨lc[k], by simp [hlen, hkn]⟩
      obtain ⟨g9, c9, e9, _, _, _, hcl, hz⟩ := own_block ho.out (by omega)
      have hg9 : g9 = g := by simp at e9; exact e9.1.symm
      rw [hg9] at hcl hz
      have cx := hcl i _ (icells_get lc i x hx)
      have cy := hcl k _ (icells_get lc k y hy)
      have hz1 := hz i
      have hz2 := hz k
      have i1 : (0 : Int) ≤ (i : Int) := by omega
      have i2 : (i : Int) < (n : Int) := by omega
      have i3 : (0 : Int) ≤ (k : Int) := by omega
      have i4 : (k : Int) < (n : Int) := by omega
      have i5 : (i : Int) < (k : Int) := by omega
      have HO1 := Lib.hid (fun q => own_write (own_write (show (wr.drewN q).ownsRow B 3 1 (.slice (some ⟨g, 0, none⟩) n c) n (icells lc) from ho.out) i (by simp [icells, hlen, hin]) (.int .i64 y)) k (by simp [icells, hlen, hkn]) (.int .i64 x))
      have HG1 := Lib.hid (fun q => fgrown_set (fgrown_set (grown_drewN hg.out q) i (.int .i64 y)) k (.int .i64 x))
      have hR1 := hR.out.step (by rw [← HN.out]; exact hlt) hx (by rw [← HN.out, ← hk]; exact hy)
      rw [← HN.out, ← hk] at hR1
      have HR1 := Lib.hid hR1
      have HK := Lib.hid hk
      rw [hki]
      clear hR1 hR hg hi' hi hlt hk e9 hg9 hcl hz hx hy hlen ho
      go_wp2_with fail
      (refine wp_region_rws [0, 0, 1, 1, 0, 0, 0, 0, 0, 0, 0, 0, 0, 2, 2, 2] (by kernel_rfl) (by kernel_rfl) (by kernel_rfl) (fun _ _ d _ _ h => by cases d <;> exact h) ?_
       simp only [pickL, reduceIte, Nat.reduceEqDiff]
       repeat (go_big_quiet_step (fail))
       refine wpQuiet_nil ?_
       repeat (refine wpW_step ?_ ?_ ?_; rotate_left; focus (intro w1; go_simp; first | done | with_reducible rfl))
       refine wpW_nil ?_
       intro _ hw'
       obtain ⟨nq, hw''⟩ := hw'
       subst hw'')
      go_wp2_with fail
      go_roundw
      case rel =>
        refine ⟨i + 1, (lc.set i y).set k x, by go_num, ?_, ?_, ?_, HR1.out, HG1.out _⟩
        · have := HK.out; go_num
        · have := HK.out; show 2 * (i + 1) ≤ _; omega
        · have h9 := HO1.out nq
          rw [icells_set, icells_set] at h9
          exact h9
      case measure => simp [intOf]; omega
    · have HI := Lib.hid hi'
      have hle : (n : Int) - 1 - (i : Int) ≤ (i : Int) := by omega
      have hrev : lc = l.reverse := hR.out.done (by rw [← HN.out]; omega)
      have HR := Lib.hid hrev
      clear hi' hR hi hrev
      go_wp2_with fail
      go_ret
      rw [← HR.out]
      exact ⟨rfl, ho.out, hg.out⟩
end Go.Proofs.Ytgddfmfiiodgbaa

/- Rows of numbers of a call's own, that grow at their end. -/
namespace Go.Proofs.Ytgddfmfiiodgbaa
open Go Go.RowKit
set_option maxRecDepth 100000
set_option linter.unusedVariables false
set_option linter.unusedSimpArgs false

/-- A row of numbers in blocks that are younger than a world. -/
def OwnI (w0 w : World) (v : Value) (xs : List Int) : Prop := w.ownsRow w0.heap.size 3 1 v xs.length (icells xs) ∧ Below w0.heap.size w0 w

section
variable {P : Program} {t : TypeId} {w0 w : World} {v : Value} {xs : List Int}

theorem OwnI.nil (w : World) : OwnI w w (.slice none 0 0) [] := ⟨own_nil0 _ _ _ _, Below.refl _ _⟩
theorem OwnI.nil' {w0 w : World} (h : Below w0.heap.size w0 w) : OwnI w0 w (.slice none 0 0) [] := ⟨own_nil0 _ _ _ _, h⟩
theorem OwnI.slice (h : OwnI w0 w v xs) : ∃ A c, v = .slice A xs.length c ∧ xs.length ≤ c ∧ Reads w A (icells xs) := own_reads0 h.1
theorem OwnI.reads {A : Option Addr} {c m : Nat} (h : OwnI w0 w (.slice A m c) xs) : Reads w A (icells xs) ∧ xs.length ≤ c ∧ m = xs.length := own_reads1 h.1
theorem OwnI.go {w' : World} (h : OwnI w0 w v xs) (hb : Below w.heap.size w w') : OwnI w0 w' v xs := ⟨own_below0 h.1 hb, h.2.trans (hb.mono h.2.size)⟩
theorem OwnI.drewN (h : OwnI w0 w v xs) (k : Nat) : OwnI w0 (w.drewN k) v xs := h.go (below_drewN0 (Below.refl _ _) k)
/-- What turns no own block of it. -/
theorem OwnI.far {w' : World} (h : OwnI w0 w v xs) (hk : ∀ g, v.ownBlock = some g → w'.heap[g]? = w.heap[g]?) (hb : Below w0.heap.size w0 w') : OwnI w0 w' v xs := ⟨own_far h.1 hk, hb⟩
theorem OwnI.base {w1 : World} (h : OwnI w1 w v xs) (hb : Below w0.heap.size w0 w1) : OwnI w0 w v xs := ⟨own_cast h.1 hb.size rfl rfl, hb.trans (h.2.mono hb.size)⟩

theorem wpList_snocI (E : EI P t 3 (.int .i64 0) 1 8) {ops : Array Oper} {rest : List Oper} {o : Oper} {a : Act} {Q : Exit → Act → World → Prop} (hgd : o.guard = none) (s x : Operand)
    (ho : o.op = .call { callee := .builtin .append, args := #[s, x], argTypes := #[t, t] }) (hown : OwnI w0 w v xs) (hs : a.eval s = v) (z : Int) (g : Nat) (hg : g = w.heap.size) (hx : a.eval x = .slice (some ⟨g, 0, none⟩) 1 1) (hl : xs.length ≤ 10000000)
    (hK : ∀ A c w', OwnI w0 w' (.slice A (xs ++ [z]).length c) (xs ++ [z]) → (w.alloc (.cells #[.int .i64 z] 3)).grownBy w' v.ownBlock → ((Value.slice A (xs ++ [z]).length c).ownBlock = v.ownBlock ∨ (Value.slice A (xs ++ [z]).length c).ownBlock = some (w.heap.size + 1)) →
      wpList P ops Q rest (a.put o.dst (.slice A (xs.length + 1) c)) w') : wpList P ops Q (o :: rest) a (w.alloc (.cells #[.int .i64 z] 3)) := by
  subst hg
  have h1 := hown.go ((Below.refl w.heap.size w).alloc (Nat.le_refl _) (.cells #[.int .i64 z] 3))
  refine wpList_app E hgd s x ho w0.heap.size v xs.length (icells xs) hs h1.1 (some ⟨w.heap.size, 0, none⟩) 1 1 [.int .i64 z] hx (reads_new w [_] _) rfl (by simp [Value.oneCell']) (by omega) h1.2.size ?_
  intro v' w' ho' hg' hat
  obtain ⟨A, c, rfl, hc, _⟩ := own_reads0 ho'
  have e : (xs ++ [z]).length = xs.length + 1 := by simp
  refine hK A c w' ⟨?_, Below.grown h1.2 hg' h1.2.size (fun k hk => (own_lt0 hown.1 k hk).1)⟩ hg' ?_
  · rw [e]; exact own_cast ho' (Nat.le_refl _) rfl (by simp [icells])
  · rw [e]
    simpa using hat

/-- A row read behind a row of one's own. -/
theorem wpList_appI (E : EI P t 3 (.int .i64 0) 1 8) {ops : Array Oper} {rest : List Oper} {o : Oper} {a : Act} {Q : Exit → Act → World → Prop} (hgd : o.guard = none) (s x : Operand)
    (ho : o.op = .call { callee := .builtin .append, args := #[s, x], argTypes := #[t, t] }) (hown : OwnI w0 w v xs) (hs : a.eval s = v) (zs : List Int) (A : Option Addr) (c m : Nat) (hm : zs.length = m) (hx : a.eval x = .slice A m c) (hr : Reads w A (icells zs)) (hl : xs.length + m ≤ 10000000)
    (hK : ∀ A' c' w', OwnI w0 w' (.slice A' (xs ++ zs).length c') (xs ++ zs) → w.grownBy w' v.ownBlock → ((Value.slice A' (xs ++ zs).length c').ownBlock = v.ownBlock ∨ (Value.slice A' (xs ++ zs).length c').ownBlock = some w.heap.size) →
      wpList P ops Q rest (a.put o.dst (.slice A' (xs.length + m) c')) w') : wpList P ops Q (o :: rest) a w := by
  subst hm
  refine wpList_app E hgd s x ho w0.heap.size v xs.length (icells xs) hs hown.1 A zs.length c (icells zs) hx hr (by rw [icells_length, Nat.mul_one]) (icells_one zs) (by omega) hown.2.size ?_
  intro v' w' ho' hg' hat
  obtain ⟨A', c', rfl, hc, _⟩ := own_reads0 ho'
  have e : (xs ++ zs).length = xs.length + zs.length := by simp
  refine hK A' c' w' ⟨?_, Below.grown hown.2 hg' hown.2.size (fun k hk => (own_lt0 hown.1 k hk).1)⟩ hg' ?_
  · rw [e]; exact own_cast ho' (Nat.le_refl _) rfl (by simp [icells])
  · rw [e]; exact hat
end
end Go.Proofs.Ytgddfmfiiodgbaa

/- Walk of a forest's way. -/
namespace Go.Proofs.Ytgddfmfiiodgbaa
open Go Go.RowKit
set_option maxRecDepth 100000
set_option linter.unusedVariables false
set_option linter.unusedSimpArgs false

theorem FW.go {w0 w w' : World} {n : Nat} {M : Nat → Option Nat} {L : FLay} {S : FoS} (h : FW w0 w n M L S) (hb : Below w.heap.size w w') : FW w0 w' n M L S := by
  obtain ⟨u, mk, hM⟩ := h; exact ⟨u, mk, hM.go hb⟩

def natI (l : List Nat) : List Int := l.map fun (v : Nat) => (v : Int)
theorem natI_length (l : List Nat) : (natI l).length = l.length := by simp [natI]
theorem natI_append (l l' : List Nat) : natI (l ++ l') = natI l ++ natI l' := by simp [natI]
theorem natI_reverse (l : List Nat) : natI l.reverse = (natI l).reverse := by simp [natI]

/-- A row of vertices of the call's own. -/
def WayPost (l : List Nat) (w : World) (e : Ending) (w' : World) : Prop :=
  ∃ g c, e = .returned (.slice (some ⟨g, 0, none⟩) (natI l).length c) ∧ OwnI w w' (.slice (some ⟨g, 0, none⟩) (natI l).length c) (natI l)

theorem own_turn {w0 w1 w2 w3 w4 : World} {v : Value} {xs : List Int} {g : Nat} (hlt : ∀ k, v.ownBlock = some k → k < w1.heap.size) (ho : OwnI w0 w2 v xs) (hb : Below w2.heap.size w2 w3) (hg : w3.grownBy w4 (some g)) (h2 : w2.heap.size ≤ g) (h1 : w1.heap.size ≤ w2.heap.size) (h3 : g < w3.heap.size) : OwnI w0 w4 v xs := by
  have ho3 := ho.go hb
  refine ho3.far (fun k hk => hg.block k (own_lt0 ho3.1 k hk).2 (fun e => by have := hlt k hk; have := Option.some.inj e; omega)) (Below.grown ho3.2 hg ho3.2.size (fun k hk => by have := Option.some.inj hk; have := ho.2.size; omega))

set_option maxHeartbeats 4000000 in
theorem way_any {w0 : World} {n : Nat} {M : Nat → Option Nat} {L : FLay} {S : FoS} (d : Nat) : ∀ (w : World) (v t : Nat) (l : List Nat), FW w0 w n M L S → v < n → t < n → Way M S v t l → l.length ≤ d → l.length ≤ 4000000 →
    Calls Try.prog 173 #[.pointer (some ⟨L.f, 0, none⟩), .int .i64 (v : Int), .int .i64 (t : Int)] w (WayPost l w) := by
  induction d with
  | zero =>
    intro w v t l hF hv ht hW hl hm
    obtain ⟨l', rfl⟩ := hW.first
    simp at hl
  | succ d ih =>
    intro w v t l hF hv ht hW hl hm
    have IH := Lib.hid ih
    have HF := Lib.hid hF
    have HW := Lib.hid hW
    have HM := Lib.hid hm
    have HLD := Lib.hid hl
    clear ih hF hW hm hl
    have hnn := HF.out.nn
    go_enter Try.func173, Try.ntmps173
    go_wp2_with fail
    go_loopg [1, 7] l.length (fun k p q wx => ∃ (v : Nat) (xs : List Int) (rest : List Nat) (A : Option Addr) (c : Nat), p = .int .i64 v ∧ q = .slice A xs.length c ∧ v < n ∧ Hid (OwnI w wx (.slice A xs.length c) xs) ∧ Hid (Way M S v t rest) ∧ Hid (xs ++ natI rest = natI l) ∧ Hid (rest.length ≤ k))
    case atStart => exact ⟨v, [], l, none, 0, rfl, rfl, hv, OwnI.nil w, HW, rfl, Nat.le_refl _⟩
    case round =>
      clear HW
      obtain ⟨z, xs, rest, A, c, rfl, rfl, hz, ho, hW, hE, hK⟩ := hrel
      have i1 : (0 : Int) ≤ (z : Int) := by omega
      have i2 : (z : Int) < (n : Int) := by omega
      have hacc : xs.length + rest.length ≤ 4000000 := by
        have := congrArg List.length hE.out
        have hm := HM.out
        simp [natI_length] at this
        omega
      have hr1 : 1 ≤ rest.length := by
        obtain ⟨l', e⟩ := hW.out.first
        rw [e]; simp
      have hbz := ho.out.2.size
      go_upto_region 2 with fail
      have hal : xs.length ≤ 10000000 := by omega
      go_cut [7] (fun v7 wc => ∃ (A2 : Option Addr) (c2 : Nat), v7 = .slice A2 (xs.length + 1) c2 ∧ Hid (OwnI w wc (.slice A2 (xs ++ [(z : Int)]).length c2) (xs ++ [(z : Int)])))
      case first =>
        go_wp2_with (at_builtin; go_loud ((refine wpList_snocI EI_int rfl (.tmp 9) (.tmp 11) rfl ho.out rfl (z : Int) wr.heap.size rfl rfl hal ?_); intro A2 c2 w2 ho2 _ _))
        go_meet
        exact ⟨A2, c2, rfl, ho2⟩
      case rest =>
        obtain ⟨A2, c2, rfl, ho2⟩ := hcut
        clear ho hbz
        have hb2 := ho2.out.2
        have hFc := HF.out.go hb2
        have hWW := hW.out
        generalize hrr : rest = r at hWW
        cases hWW with
        | stop =>
          have HE : Hid (xs ++ [(t : Int)] = natI l) := by unfold Hid; rw [← hE.out, hrr]; rfl
          obtain ⟨g, c9, cur, e9, _⟩ := own_open ho2.out.1 (by simp)
          have hfin : WayPost l w (.returned (.slice A2 (xs.length + 1) c2)) wc := by
            refine ⟨g, c9, ?_, ?_⟩
            · rw [← HE.out, ← e9]; simp
            · rw [← HE.out, ← e9]; exact ho2.out
          have HFIN := Lib.hid hfin
          clear hfin HE hE hrr hW hFc
          go_wp2_with fail
          go_ret
          exact HFIN.out
        | @even _ _ m l' hne ho1 hlb hm hW' =>
          have hmn := HF.out.mlt hz hm
          have hpn := HF.out.bd.pred m hmn
          have f1 := hFc.fc 1 _ rfl
          have f2 := hFc.fc 2 _ rfl
          obtain ⟨mb, mo, hmA, c1⟩ := hFc.mcell hz
          have c2l := hFc.c2 hz
          dsimp only [FLay.rv] at f2
          rw [hmA] at f1
          rw [hm] at c1
          rw [hlb] at c2l
          simp only [encO] at c1
          have i5 : ((z : Int) == (t : Int)) = false := by rw [beq_eq_false_iff_ne]; omega
          have k1 : (0 : Int) ≤ (m : Int) := by omega
          have k2 : (m : Int) < (n : Int) := by omega
          have HE : Hid ((xs ++ [(z : Int)] ++ [(m : Int)]) ++ natI l' = natI l) := by unfold Hid; rw [← hE.out, hrr]; simp [natI]
          have HK : Hid (l'.length + 2 ≤ gk) := by have := hK.out; rw [hrr] at this; show _ ≤ _; simp at this; omega
          have hal2 : (xs ++ [(z : Int)]).length ≤ 10000000 := by simp; omega
          have HW' := Lib.hid hW'
          have HMM := Lib.hid hm
          clear hE hW hrr hW' hm hne hlb ho1
          go_upto_region 9 with fail
          go_cut [7] (fun v7 wd => ∃ (A3 : Option Addr) (c3 : Nat), v7 = .slice A3 (xs.length + 1 + 1) c3 ∧ Hid (OwnI w wd (.slice A3 (xs ++ [(z : Int)] ++ [(m : Int)]).length c3) (xs ++ [(z : Int)] ++ [(m : Int)])))
          case first =>
            have ho3 := ho2.out
            have hxe : (xs ++ [(z : Int)]).length = xs.length + 1 := by simp
            rw [hxe] at ho3
            clear hxe
            go_wp2_with (at_builtin; go_loud ((refine wpList_snocI EI_int rfl (.tmp 50) (.tmp 58) rfl ho3 rfl (m : Int) wc.heap.size rfl rfl hal2 ?_); intro A3 c3 w3 ho4 _ _))
            go_meet
            exact ⟨A3, c3, by simp, ho4⟩
          case rest =>
            obtain ⟨A3, c3, rfl, ho3⟩ := hcut
            clear f1 f2 c1 c2l hmA
            have hFd := HF.out.go ho3.out.2
            have f1 := hFd.fc 1 _ rfl
            have f6 := hFd.fc 6 _ rfl
            obtain ⟨mb, mo, hmA, c1⟩ := hFd.mcell hz
            have c6 := hFd.c6 hmn
            dsimp only [FLay.rv] at f6
            rw [hmA] at f1
            rw [HMM.out] at c1
            simp only [encO] at c1
            clear hmA
            go_wp2_with fail
            go_quiet (fail)
            go_wp2_with fail
            go_roundg l'.length
            case rel => exact ⟨S.pred m, _, l', A3, c3, rfl, by simp, hpn, ho3.out.drewN _, HW', HE, Nat.le_refl _⟩
            case measure => have := HK.out; omega
        | @odd _ _ x a b hne ho1 hlb hm hWa hWb =>
          have hxn := HF.out.mlt hz hm
          obtain ⟨hpn, hqn⟩ := HF.out.bd.bridge z hz
          obtain ⟨p, q, hpq⟩ : ∃ p q, S.bridge z = (p, q) := ⟨_, _, rfl⟩
          rw [hpq] at hpn hqn hWa hWb
          dsimp only at hpn hqn hWa hWb
          have f2 := hFc.fc 2 _ rfl
          have f8 := hFc.fc 8 _ rfl
          have c2l := hFc.c2 hz
          obtain ⟨uu, mk, hMc⟩ := id hFc
          have c8 := hMc.rc 8 (by omega) (by omega) (z * 2) _ (pcells_get' _ z _ (brow_get S.bridge hz)).1
          have c8' := hMc.rc 8 (by omega) (by omega) (z * 2 + 1) _ (pcells_get' _ z _ (brow_get S.bridge hz)).2
          rw [hpq] at c8 c8'
          dsimp only [FLay.rv] at f2 f8 c8 c8'
          rw [hlb] at c2l
          have i5 : ((z : Int) == (t : Int)) = false := by rw [beq_eq_false_iff_ne]; omega
          have HEl : Hid ((xs ++ [(z : Int)] ++ natI a.reverse) ++ natI b = natI l) := by unfold Hid; rw [← hE.out, hrr]; simp [natI]
          have HK : Hid (a.length + b.length + 1 ≤ gk) := by have := hK.out; rw [hrr] at this; show _ ≤ _; simp at this; omega
          have hrl : rest.length = a.length + b.length + 1 := by rw [hrr]; simp
          have hld : a.length ≤ d := by
            have h1 := congrArg List.length hE.out
            have h2 := HLD.out
            simp [natI_length] at h1
            omega
          have hal2 : (xs ++ [(z : Int)]).length + (natI a.reverse).length ≤ 10000000 := by simp [natI_length]; omega
          have haL : a.length ≤ 4000000 := by omega
          have hb1 : 1 ≤ b.length := by obtain ⟨l', e⟩ := hWb.first; rw [e]; simp
          have hsz : w.heap.size ≤ wc.heap.size := hb2.size
          have IHa := fun (W : World) (h : FW w0 W n M L S) => IH.out W p x a h hpn hxn hWa hld haL
          have HWb := Lib.hid hWb
          have HMM := Lib.hid hm
          clear hE hW hrr hWa hWb hm hne hlb ho1 hMc hpq hrl hld haL
          obtain ⟨w1, rfl⟩ : ∃ w1 : World, w1 = wc := ⟨_, rfl⟩
          go_upto_region 3 with fail
          go_cut [8] (fun v8 wd => ∃ (sb : Nat), v8 = .pointer (some ⟨sb, 0, none⟩) ∧ Hid (wd.heap[sb]? = some (.cells #[.int .i64 (p : Int), .int .i64 (q : Int)] 199 (0, 0))) ∧ w1.heap.size ≤ sb ∧ Hid (Below w1.heap.size w1 wd))
          case first =>
            go_wp2_with fail
            go_meet
            exact ⟨_, rfl, heap_alloc_new _ _, Nat.le_refl _, by unfold Hid; (repeat (first | with_reducible exact Below.refl _ _ | with_reducible assumption | with_reducible refine below_drewN0 ?_ _ | with_reducible refine Below.drew ?_ | with_reducible refine Below.alloc ?_ ?_ _ | with_reducible refine Below.setCell ?_ ?_ _ | go_size | exact Below.size (by assumption)))⟩
          case rest =>
            obtain ⟨sb, rfl, hsb, hsbl, hbd⟩ := hcut
            clear f2 f8 c8 c8' c2l
            have ho3 := Lib.hid (ho2.out.go hbd.out)
            have hFd := HF.out.go ho3.out.2
            have f1 := hFd.fc 1 _ rfl
            obtain ⟨mb, mo, hmA, c1⟩ := hFd.mcell hz
            rw [hmA] at f1
            rw [HMM.out] at c1
            simp only [encO] at c1
            have s0 := blkc0 hsb.out 0 _ rfl
            have s1 := blkc0 hsb.out 1 _ rfl
            have hsbl2 := heap_lt0 hsb.out
            have hxe : (xs ++ [(z : Int)]).length = xs.length + 1 := by simp
            have hownlt : ∀ g, (Value.slice A2 (xs.length + 1) c2).ownBlock = some g → g < w1.heap.size := fun g hg => by
              have := ho2.out.1
              rw [hxe] at this
              exact (own_lt0 this g hg).2
            have HOL := Lib.hid hownlt
            rw [hxe] at ho3 hal2
            clear hmA hownlt hxe ho2 hFc
            obtain ⟨w2, rfl⟩ : ∃ w2 : World, w2 = wc := ⟨_, rfl⟩
            go_upto_region 4 with fail
            go_cut [7] (fun v7 wd => ∃ (A3 : Option Addr) (c3 : Nat), v7 = .slice A3 (xs ++ [(z : Int)] ++ natI a.reverse).length c3 ∧ Hid (OwnI w wd (.slice A3 (xs ++ [(z : Int)] ++ natI a.reverse).length c3) (xs ++ [(z : Int)] ++ natI a.reverse)) ∧ Hid (wd.cell? ⟨sb, 1, none⟩ = some (.int .i64 (q : Int))))
            case first =>
              have hFD := fun k => hFd.drewN k
              (refine wp_region_rws [1, 0, 0, 0, 0, 0, 0, 0, 0, 0, 0, 2, 2, 2, 2] (by kernel_rfl) (by kernel_rfl) (by kernel_rfl) (fun _ _ d _ _ h => by cases d <;> exact h) ?_
               simp only [pickL, reduceIte, Nat.reduceEqDiff]
               repeat (go_big_quiet_step (fail))
               refine wpQuiet_nil ?_
               repeat (refine wpW_step ?_ ?_ ?_; rotate_left; focus (intro w1; go_simp; first | done | with_reducible rfl))
               refine wpW_nil ?_
               intro _ hw'
               obtain ⟨nq, hw''⟩ := hw'
               subst hw'')
              have hnl : (natI a).length ≤ 4611686018427387903 := by have := hal2; simp [natI_length] at this ⊢; omega
              have hnr : (natI a.reverse).length = (natI a).length := by simp [natI]
              have hal3 : xs.length + 1 + (natI a).length ≤ 10000000 := by rw [← hnr]; exact hal2
              have HNR := Lib.hid hnr
              have HAL := Lib.hid hal3
              have HNL := Lib.hid hnl
              clear hnr hal3 hal2 hnl
              go_wp2_with (first
                | (go_at_call 173; ((with_reducible refine (IHa _ (hFD _)).mono ?_); rintro e w3 ⟨g, cg, rfl, hog⟩))
                | (go_at_call 172; (refine (fturned_any (natI a) _ g cg w3 hog.1 HNL.out).mono ?_; rintro e w4 ⟨rfl, hot, hgt⟩; (have hgg : w2.heap.size ≤ g ∧ g < w3.heap.size := own_lt0 hog.1 g rfl); (have hb23 : Below w2.heap.size w2 w3 := (below_drewN0 (Below.refl _ _) _).trans hog.2); have ho4 := Lib.hid (own_turn HOL.out ho3.out hb23 hgt hgg.1 (Nat.le_trans hsbl (Nat.le_of_lt hsbl2)) hgg.2); (have hs4 : w4.cell? ⟨sb, 1, none⟩ = some (.int .i64 (q : Int)) := (World.cell?_of_block (a := ⟨sb, 1, none⟩) (hgt.block sb (Nat.lt_of_lt_of_le hsbl2 hb23.size) (fun e => by have h9 := Option.some.inj e; omega))).trans ((hb23.cell (p := ⟨sb, 1, none⟩) hsbl2).trans s1))))
                | (at_builtin; go_loud ((refine wpList_appI EI_int rfl (.tmp 20) (.tmp 32) rfl ho4.out rfl (natI a.reverse) (some ⟨g, 0, none⟩) cg (natI a).length HNR.out rfl (by rw [natI_reverse]; exact (own_reads1 hot).1) (by have := HAL.out; simpa using this) ?_); intro A3 c3 w5 ho5 hg5 hat5)))
              go_meet
              have e9 : (xs ++ [(z : Int)] ++ natI a.reverse).length = xs.length + 1 + (natI a).length := by simp [natI]; omega
              refine ⟨A3, c3, by rw [e9], ho5, ?_⟩
              exact (World.cell?_of_block (a := ⟨sb, 1, none⟩) (hg5.block sb (Nat.lt_of_lt_of_le (Nat.lt_of_lt_of_le hsbl2 hb23.size) hgt.size) (fun e => by have h9 := HOL.out sb e.symm; omega))).trans hs4
            case rest =>
              obtain ⟨A3, c3, rfl, ho4, hs1⟩ := hcut
              clear f1 c1 s0 s1
              have hs2 := hs1.out
              go_wp2_with fail
              go_roundg b.length
              case rel => exact ⟨q, _, b, A3, c3, rfl, rfl, hqn, ho4, HWb, HEl, Nat.le_refl _⟩
              case measure => have := HK.out; omega
end Go.Proofs.Ytgddfmfiiodgbaa
