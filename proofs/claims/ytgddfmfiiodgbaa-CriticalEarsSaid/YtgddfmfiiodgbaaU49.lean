/- CriticalEars, walked. -/
import Derived.Test.YtgddfmfiiodgbaaU47
import Derived.Test.YtgddfmfiiodgbaaU31
import Derived.Test.YtgddfmfiiodgbaaU32
import Derived.Test.YtgddfmfiiodgbaaU39
import Derived.Test.YtgddfmfiiodgbaaU08
namespace Go.Proofs.Ytgddfmfiiodgbaa
open Go Go.RowKit
set_option maxRecDepth 100000
set_option linter.unusedVariables false
set_option linter.unusedSimpArgs false

theorem RightP.upto {n m : Int} {es : List (Int × Int)} (h : RightP n es) (hm : n ≤ m) (hm2 : m ≤ 4096) : RightP m es :=
  ⟨by have := h.n0; omega, hm2, h.len, fun e he => by have := h.ok e he; omega, h.inc⟩

/-- An edge more, if it may be. -/
def addL (n : Int) (es : List (Int × Int)) (x y : Int) : List (Int × Int) := if addErr n es x y = 0 then putE es (min x y, max x y) else es
theorem addL_len {n x y : Int} {es : List (Int × Int)} : (addL n es x y).length ≤ es.length + 1 := by
  unfold addL
  split
  · rw [putE_length]; omega
  · omega
theorem addL_right {n x y : Int} {es : List (Int × Int)} (h : RightP n es) : RightP n (addL n es x y) := by
  unfold addL
  split
  next h0 => exact (addErr_zero h0).2.1
  next => exact h
theorem addL_more {n : Int} {es : List (Int × Int)} {a b u v : Nat} (h : adjE es u v) : adjE (addL n es a b) u v := by
  unfold addL
  split
  · exact (put_adj_iff _ _).2 (.inl h)
  · exact h
theorem addL_new {n : Nat} {es : List (Int × Int)} (h : RightP n es) {a b : Nat} (ha : a < n) (hb : b < n) (hab : a ≠ b) (hl : es.length < 65536) : adjE (addL n es a b) a b := by
  unfold addL
  by_cases h0 : addErr n es a b = 0
  · rw [if_pos h0]; exact (put_adj_iff _ _).2 (.inr (.inl ⟨rfl, rfl⟩))
  · rw [if_neg h0]; exact add_has h ha hb hab hl h0

/-- A graph in a block that a closure holds. -/
structure EW (w : World) (b : Nat) (n : Int) (es : List (Int × Int)) (A : Option Addr) (c : Nat) (wr : World) : Prop where
  box : Box2 w b (.int .i64 n) (.slice A es.length c) 25 wr
  rd : Reads wr A (pcells es)
  cap : es.length ≤ c
  ne : ∀ q, A = some q → q.block ≠ b
  lo : w.heap.size ≤ b
theorem EW.go {w wr wd : World} {b : Nat} {n : Int} {es : List (Int × Int)} {A : Option Addr} {c : Nat} (h : EW w b n es A c wr) (hb : Below wr.heap.size wr wd) : EW w b n es A c wd := ⟨h.box.go hb, h.rd.below hb, h.cap, h.ne, h.lo⟩

set_option maxHeartbeats 1000000 in
theorem ears1_any {w wr : World} {b : Nat} {n : Int} {es : List (Int × Int)} {A : Option Addr} {c : Nat} (x y : Int) (h : EW w b n es A c wr) (hl : es.length ≤ 60000) :
    Calls Try.prog 58 #[.int .i64 x, .int .i64 y, .pointer (some ⟨b, 0, none⟩)] wr fun e w' => e = .returned (.tuple #[]) ∧ ∃ A' c', EW w b n (addL n es x y) A' c' w' := by
  have c0 := h.box.c0
  have c1 := h.box.c1
  have HAD := addAny n x y es A c wr h.rd h.cap (by omega)
  have HH := Lib.hid h
  clear h
  go_enter Try.func58, Try.ntmps58
  go_upto_region 1 with (go_at_call 59; (refine HAD.mono ?_; rintro e w1 ⟨n', A', l', c', err, rfl, hb1, hD⟩))
  have hE1 := HH.out.go hb1
  have hE2 := hE1.go ((Below.refl w1.heap.size w1).alloc (Nat.le_refl _) (Obj.cells #[Value.int .i64 n', Value.slice A' l' c'] 25))
  have hN := heap_alloc_new w1 (Obj.cells #[Value.int .i64 n', Value.slice A' l' c'] 25)
  have hbW : Below wr.heap.size wr (w1.alloc (Obj.cells #[Value.int .i64 n', Value.slice A' l' c'] 25)) := hb1.alloc hb1.size _
  have hown : err = 0 → n' = n ∧ l' = es.length + 1 ∧ l' ≤ c' ∧ (w1.alloc (Obj.cells #[Value.int .i64 n', Value.slice A' l' c'] 25)).ownsRow wr.heap.size 49 2 (.slice A' l' c') l' (pcells (putE es (min x y, max x y))) := fun h0 => by
    obtain ⟨h1, h2, h3, h4⟩ := hD.out.2 h0
    exact ⟨h1, h2, h3, own_below0 h4 ((Below.refl _ _).alloc (Nat.le_refl _) _)⟩
  obtain ⟨b5, h5⟩ : ∃ b, b = w1.heap.size := ⟨_, rfl⟩
  have hb5 : b ≠ b5 := by have := HH.out.box.lt; have := hb1.size; omega
  rw [← h5] at hN ⊢
  generalize hW2 : w1.alloc (Obj.cells #[Value.int .i64 n', Value.slice A' l' c'] 25) = w2 at *
  have HE := Lib.hid (show err = addErr n es x y from hD.out.1)
  have HOWN := Lib.hid hown
  have HE2 := Lib.hid hE2
  have HN := Lib.hid hN
  clear hD hE1 hE2 hN hown hW2 hb1 c0 c1 HAD h5
  by_cases h0 : err = 0
  · subst h0
    obtain ⟨rfl, rfl, hc', ho⟩ := HOWN.out rfl
    have y0 := blkc0 HN.out 0 _ rfl
    have y1 := blkc0 HN.out 1 _ rfl
    have x0 := HE2.out.box.c0
    have x1 := HE2.out.box.c1
    have f0 := HE2.out.box.f0 0
    have f1 := HE2.out.box.f0 1
    have HO := Lib.hid ho
    clear ho
    go_wp2_with fail
    go_end0
    have hL : addL n' es x y = putE es (min x y, max x y) := by unfold addL; rw [if_pos HE.out.symm]
    rw [hL]
    have hle : (putE es (min x y, max x y)).length = es.length + 1 := putE_length _ _
    have hlt := HH.out.box.lt
    refine ⟨rfl, A', c', ⟨by rw [hle]; exact HE2.out.box.set HH.out.lo _ _, ?_, by rw [hle]; exact hc', fun q hq => ?_, HH.out.lo⟩⟩
    · exact (own_reads1 (own_set (a := ⟨b, 1, none⟩) (own_set (a := ⟨b, 0, none⟩) HO.out hlt _) hlt _)).1
    · have := (own_lt0 HO.out q.block (by rw [hq]; rfl)).1; omega
  · have e0 : (err == 0) = false := by rw [beq_eq_false_iff_ne]; exact h0
    go_wp2_with fail
    go_end0
    have hL : addL n es x y = es := by unfold addL; rw [if_neg (fun h => h0 (HE.out.trans h))]
    rw [hL]
    exact ⟨rfl, A, c, HE2.out⟩


theorem EW.setN {w wr : World} {b : Nat} {n : Int} {es : List (Int × Int)} {A : Option Addr} {c : Nat} (h : EW w b n es A c wr) (m : Int) : EW w b m es A c (wr.setCell ⟨b, 0, none⟩ (.int .i64 m)) := by
  have hb : (wr.setCell ⟨b, 0, none⟩ (.int .i64 m)).heap[b]? = some (.cells #[.int .i64 m, .slice A es.length c] 25 (0, 0)) := by
    have h1 := h.box.blk
    simp [World.setCell, Array.getElem?_modify, h1]
  exact ⟨⟨hb, h.box.below.setCell (p := ⟨b, 0, none⟩) h.lo _⟩, h.rd.setFar h.ne 0 _, h.cap, h.ne, h.lo⟩

/-- The cycle, so far. -/
def C1P (n v : Nat) (es : List (Int × Int)) : Prop := RightP n es ∧ es.length ≤ v ∧ ∀ u, u < v → adjE es u ((u + 1) % n)
theorem C1P.succ {n v : Nat} {es : List (Int × Int)} (h : C1P n v es) (hn : 3 ≤ n) (hv : v < n) (hn2 : n ≤ 41) : C1P n (v + 1) (addL n es v (((v + 1) % n : Nat) : Int)) := by
  have hlt : (v + 1) % n < n := Nat.mod_lt _ (by omega)
  have hne : v ≠ (v + 1) % n := by
    by_cases e : v + 1 = n
    · rw [e, Nat.mod_self]; omega
    · rw [Nat.mod_eq_of_lt (by omega)]; omega
  refine ⟨addL_right h.1, Nat.le_trans addL_len (by have := h.2.1; omega), fun u hu => ?_⟩
  by_cases e : u = v
  · subst e; exact addL_new h.1 hv hlt hne (by have := h.2.1; omega)
  · exact addL_more (h.2.2 u (by omega))
/-- The cycle, with chords. -/
def C2P (n k : Nat) (es : List (Int × Int)) : Prop := RightP n es ∧ es.length ≤ n + k ∧ ∀ u, u < n → adjE es u ((u + 1) % n)
/-- .. and so much of an ear. -/
def C3P (n k a : Nat) (es : List (Int × Int)) : Prop := RightP ((n + k : Nat) : Int) es ∧ es.length ≤ n + 30 + k ∧ (∀ u, u < n → adjE es u ((u + 1) % n)) ∧ (0 < k → adjE es a n) ∧ ∀ j, j + 1 < k → adjE es (n + j) (n + j + 1)
def lastN (n k a : Nat) : Nat := if k = 0 then a else n + k - 1
theorem C3P.succ {n k a : Nat} {es : List (Int × Int)} (h : C3P n k a es) (hn : n ≤ 41) (hk : k < 18) (ha : a < n) : C3P n (k + 1) a (addL ((n + k + 1 : Nat) : Int) es (lastN n k a) ((n + k : Nat) : Int)) := by
  obtain ⟨h1, h2, h3, h4, h5⟩ := h
  have hR := h1.upto (m := ((n + k + 1 : Nat) : Int)) (by omega) (by omega)
  have hl : lastN n k a < n + k + 1 ∧ lastN n k a ≠ n + k := by unfold lastN; split <;> omega
  have hnew := addL_new (n := n + k + 1) hR hl.1 (show n + k < n + k + 1 by omega) hl.2 (by omega)
  refine ⟨addL_right hR, Nat.le_trans addL_len (by omega), fun u hu => addL_more (h3 u hu), fun _ => ?_, fun j hj => ?_⟩
  · by_cases e : k = 0
    · subst e; exact hnew
    · exact addL_more (h4 (by omega))
  · by_cases e : j + 1 = k
    · have h6 : lastN n k a = n + j := by unfold lastN; rw [if_neg (by omega)]; omega
      rw [h6] at hnew ⊢
      rw [show n + j + 1 = n + k by omega]
      exact hnew
    · exact addL_more (h5 j (by omega))
theorem C3P.crit {n s a b : Nat} {es : List (Int × Int)} (h : C3P n s a es) (hodd : n % 2 = 1) (hn3 : 3 ≤ n) (hn : n ≤ 41) (hs : s % 2 = 0) (hs18 : s ≤ 18) (ha : a < n) (hb : b < n) (h0 : 0 < s) :
    RightP ((n + s : Nat) : Int) (addL ((n + s : Nat) : Int) es (lastN n s a) b) ∧ CritG (n + s) (adjE (addL ((n + s : Nat) : Int) es (lastN n s a) b)) := by
  obtain ⟨h1, h2, h3, h4, h5⟩ := h
  have hl : lastN n s a = n + s - 1 := by unfold lastN; rw [if_neg (by omega)]
  have hR := addL_right (x := (lastN n s a : Int)) (y := (b : Int)) h1
  have hnew := addL_new (n := n + s) h1 (a := lastN n s a) (b := b) (by omega) (by omega) (by omega) (by omega)
  refine ⟨hR, ?_⟩
  obtain ⟨m, rfl⟩ : ∃ m, s = 2 * m := ⟨s / 2, by omega⟩
  have hg : IsGr (n + 2 * m) (adjE (addL ((n + 2 * m : Nat) : Int) es (lastN n (2 * m) a) b)) := right_gr (n := n + 2 * m) hR
  rw [hl] at hnew hg ⊢
  have hgE : IsGr n (fun u v => u < n ∧ v < n ∧ adjE es u v) := ⟨fun h => ⟨h.2.1, h.1, h.2.2.symm⟩, fun h => h.1, fun v h => (right_gr (n := n + 2 * m) h1).irr v h.2.2⟩
  have hcy : CritG n (fun u v => u < n ∧ v < n ∧ adjE es u v) := cyc_crit hgE (fun v hv => ⟨hv, Nat.mod_lt _ (by omega), h3 v hv⟩) hodd
  refine ear_crit (a := a) (b := b) hg hcy (fun u v h => addL_more h.2.2) ha hb (by omega) (addL_more (h4 h0)) (fun j hj => addL_more (h5 j hj)) hnew
theorem C3P.crit0 {n a : Nat} {es : List (Int × Int)} (h : C3P n 0 a es) (hodd : n % 2 = 1) (hn3 : 3 ≤ n) : RightP ((n + 0 : Nat) : Int) es ∧ CritG (n + 0) (adjE es) := by
  obtain ⟨h1, h2, h3, _, _⟩ := h
  exact ⟨h1, cyc_crit (right_gr (n := n) h1) h3 hodd⟩

end Go.Proofs.Ytgddfmfiiodgbaa

/- CriticalEars, walked: the law. -/
namespace Go.Proofs.Ytgddfmfiiodgbaa
open Go Go.RowKit
set_option maxRecDepth 100000
set_option linter.unusedVariables false
set_option linter.unusedSimpArgs false



theorem two_any {N : Nat} {es : List (Int × Int)} (hR1 : RightP ((N + 1 : Nat) : Int) es) (hR : RightP N es) (hcr : CritG N (adjE es)) {A : Option Addr} {c : Nat} (w : World) (hr : Reads w A (pcells es)) (hc : es.length ≤ c) :
    Calls Try.prog 59 #[.agg #[.int .i64 ((N + 1 : Nat) : Int), .slice A es.length c], .int .i64 0, .int .i64 (N : Int)] w fun e w' => ∃ (n' : Int) (L : List (Int × Int)) (A' : Option Addr) (c' : Nat) (err : Int), e = .returned (.tuple #[.agg #[.int .i64 n', .slice A' L.length c'], .int .i64 err]) ∧ L.length ≤ c' ∧ Reads w' A' (pcells L) ∧ (critB n' L = false ∧ L.length ≤ 70000) ∧ Below w.heap.size w w' := by
  have hl := hR1.len
  refine (refAdd ((N + 1 : Nat) : Int) 0 (N : Int) es A c w hr hc (by omega)).mono ?_
  rintro e w' (⟨h0, rfl, hb⟩ | ⟨h0, v, rfl, ho, hb⟩)
  · exact ⟨0, [], none, 0, _, rfl, Nat.le_refl _, .inl rfl, ⟨critB_not (n := 0) fun _ h => absurd h.1 (by omega), by simp⟩, hb⟩
  · obtain ⟨A', c', rfl, hc', hr'⟩ := own_reads0 ho
    have hz := addErr_zero h0
    have hle : (putE es (min 0 (N : Int), max 0 (N : Int))).length = es.length + 1 := putE_length _ _
    refine ⟨_, putE es (min 0 (N : Int), max 0 (N : Int)), A', c', _, by rw [hle], by rw [hle]; exact hc', hr', ⟨critB_not fun h h2 => ?_, by rw [hle]; omega⟩, hb⟩
    have := h2.odd (right_gr (n := N + 1) h)
    have := hcr.odd (right_gr (n := N) hR)
    omega

set_option maxHeartbeats 4000000 in
theorem cears_any (n0 m0 a0 b0 : Int) (chords : List Int) (Ac : Option Addr) (cc : Nat) (w : World)
    (hrc : Reads w Ac (icells chords)) (hcc : chords.length ≤ cc) (hmc : chords.length ≤ 4611686018427387903) :
    Calls Try.prog 14 #[.int .i64 n0, .int .i64 m0, .int .i64 a0, .int .i64 b0, .slice Ac chords.length cc] w fun e w' => e = .returned (.bool true) ∧ Below w.heap.size w w' := by
  obtain ⟨r1, hr1, hr1'⟩ := umod n0 20 (by omega) (by omega)
  obtain ⟨r2, hr2, hr2'⟩ := umod m0 10 (by omega) (by omega)
  have e1 : (IntKind.u64.wrap n0).tmod 20 = (r1 : Int) := hr1
  have e2 : (IntKind.u64.wrap m0).tmod 10 = (r2 : Int) := hr2
  obtain ⟨n, hn⟩ : ∃ n, n = 3 + 2 * r1 := ⟨_, rfl⟩
  obtain ⟨s, hs⟩ : ∃ s, s = 2 * r2 := ⟨_, rfl⟩
  have f1 : IntKind.i64.wrap (r1 : Int) = (r1 : Int) := by rw [IntKind.wrap_i64]; omega
  have f2 : IntKind.i64.wrap (2 * (r1 : Int)) = 2 * (r1 : Int) := by rw [IntKind.wrap_i64]; omega
  have f3 : IntKind.i64.wrap (3 + 2 * (r1 : Int)) = (n : Int) := by rw [IntKind.wrap_i64]; omega
  have f4 : IntKind.i64.wrap (r2 : Int) = (r2 : Int) := by rw [IntKind.wrap_i64]; omega
  have f5 : IntKind.i64.wrap (2 * (r2 : Int)) = (s : Int) := by rw [IntKind.wrap_i64]; omega
  have hn3 : 3 ≤ n := by omega
  have hn41 : n ≤ 41 := by omega
  have hodd : n % 2 = 1 := by omega
  have hs18 : s ≤ 18 := by omega
  have hsev : s % 2 = 0 := by omega
  obtain ⟨r3, hr3, hr3'⟩ := umod a0 n (by omega) (by omega)
  obtain ⟨r4, hr4, hr4'⟩ := umod b0 n (by omega) (by omega)
  have g1 : IntKind.u64.wrap (n : Int) = (n : Int) := by rw [IntKind.wrap_u64]; omega
  have g2 : IntKind.i64.wrap (r3 : Int) = (r3 : Int) := by rw [IntKind.wrap_i64]; omega
  have g3 : IntKind.i64.wrap (r4 : Int) = (r4 : Int) := by rw [IntKind.wrap_i64]; omega
  have g4 : ((n : Int) == 0) = false := by simp; omega
  have g5 : ¬ (n : Int) = 0 := by omega
  have g6 : ¬ n = 0 := by omega
  have HRC := Lib.hid hrc
  clear hn hs hr1 hr1' hr2 hr2' hrc
  go_enter Try.func14, Try.ntmps14
  go_upto_region 5 with fail
  have hE0 : EW w w.heap.size (n : Int) [] none 0 (w.alloc (Obj.cells #[Value.int IntKind.i64 (n : Int), Value.slice none 0 0] 25)) := ⟨Box2.new (Below.refl _ _) _ _ _, .inl rfl, Nat.le_refl _, fun q hq => (by cases hq), Nat.le_refl _⟩
  generalize w.alloc (Obj.cells #[Value.int IntKind.i64 (n : Int), Value.slice none 0 0] 25) = W0 at hE0 ⊢
  obtain ⟨b, hb⟩ : ∃ b, b = w.heap.size := ⟨_, rfl⟩
  rw [← hb] at hE0 ⊢
  have HE0 := Lib.hid hE0
  clear hE0 hb e1 e2 f1 f2 f3 f4 f5
  go_wp2_with fail
  go_loopw [13] (fun i wr => ∃ (v : Nat) (es : List (Int × Int)) (A : Option Addr) (c : Nat), i = .int .i64 v ∧ v ≤ n ∧ Hid (EW w b n es A c wr) ∧ Hid (C1P n v es)) (fun i _ => n - (intOf i).toNat)
  case atStart => exact ⟨0, [], none, 0, rfl, Nat.zero_le _, HE0, Lib.hid ⟨⟨by omega, by omega, by simp, by simp, by simp⟩, by simp, fun u hu => by omega⟩⟩
  case round =>
    clear HE0
    obtain ⟨v, es, A, c, rfl, hv, hE, hC⟩ := hrel
    by_cases hlt : v < n
    · have k1 : (v : Int) < (n : Int) := by omega
      have k2 : IntKind.i64.wrap ((v : Int) + 1) = ((v : Int) + 1) := by rw [IntKind.wrap_i64]; omega
      have k3 : ((v : Int) + 1).tmod (n : Int) = (((v + 1) % n : Nat) : Int) := by
        rw [Int.tmod_eq_emod_of_nonneg (by omega)]
        push_cast
        rfl
      have k6 : IntKind.i64.wrap (((v + 1) % n : Nat) : Int) = (((v + 1) % n : Nat) : Int) := by
        have := Nat.mod_lt (v + 1) (show 0 < n by omega)
        rw [IntKind.wrap_i64]; omega
      have hsucc := hC.out.succ hn3 hlt hn41
      have HA := ears1_any (v : Int) (((v + 1) % n : Nat) : Int) hE.out (by have := hC.out.2.1; omega)
      have HS := Lib.hid hsucc
      obtain ⟨m, hm⟩ : ∃ m, m = (v + 1) % n := ⟨_, rfl⟩
      rw [← hm] at k3 k6 HA HS
      clear hsucc hm
      go_wp2_with (go_at_call 58; (with_reducible refine HA.mono ?_); rintro e9 w1 ⟨rfl, A', c', hE'⟩)
      exact ⟨⟨v + 1, _, A', c', by go_num, by omega, hE', HS⟩, by simp [intOf]; omega⟩
    · obtain rfl : v = n := by omega
      have k1 : ¬ (v : Int) < (v : Int) := by omega
      have hC2 : Hid (C2P v 0 es) := Lib.hid ⟨hC.out.1, hC.out.2.1, hC.out.2.2⟩
      clear hC hv hlt
      go_wp2_with fail
      go_loopw [14] (fun i wr => ∃ (k : Nat) (es : List (Int × Int)) (A : Option Addr) (c : Nat), i = .int .i64 k ∧ k ≤ 21 ∧ Hid (EW w b v es A c wr) ∧ Hid (C2P v k es)) (fun i _ => 22 - (intOf i).toNat)
      case atStart => exact ⟨0, es, A, c, rfl, by omega, hE, hC2⟩
      case round =>
        clear hE hC2
        clear es A c
        obtain ⟨k, es, A, c, rfl, hk, hE, hC⟩ := hrel
        have k2 : IntKind.i64.wrap ((k : Int) + 1) = ((k : Int) + 1) := by rw [IntKind.wrap_i64]; omega
        by_cases hgo : k + 1 < chords.length ∧ k < 20
        · obtain ⟨h1, h2⟩ := hgo
          have d1 : decide ((k : Int) + 1 < (chords.length : Int)) = true := decide_eq_true (by omega)
          have d2 : decide ((k : Int) < 20) = true := decide_eq_true (by omega)
          obtain ⟨z1, hz1⟩ : ∃ z, chords[k]? = some z := ⟨chords[k]'(by omega), by simp⟩
          obtain ⟨z2, hz2⟩ : ∃ z, chords[k + 1]? = some z := ⟨chords[k + 1], by simp [h1]⟩
          obtain ⟨q1, hq1, hq1'⟩ := umod z1 v (by omega) (by omega)
          obtain ⟨q2, hq2, hq2'⟩ := umod z2 v (by omega) (by omega)
          obtain ⟨cb, co, hcA, _, cx1⟩ := (HRC.out.below hE.out.box.below).int k _ hz1
          obtain ⟨cb2, co2, hcA2, _, cx2⟩ := (HRC.out.below hE.out.box.below).int (k + 1) _ hz2
          rw [hcA] at hcA2
          simp only [Option.some.injEq, Addr.mk.injEq, and_true] at hcA2
          obtain ⟨rfl, rfl⟩ := hcA2
          rw [hcA]
          have HCA := Lib.hid hcA
          have i1 : (0 : Int) ≤ (k : Int) := by omega
          have i2 : (k : Int) < (chords.length : Int) := by omega
          have i3 : (0 : Int) ≤ (k : Int) + 1 := by omega
          have i4 : (k : Int) + 1 < (chords.length : Int) := by omega
          have i5 : ((k : Int) + 1).toNat = k + 1 := by omega
          have u1 : IntKind.i64.wrap (q1 : Int) = (q1 : Int) := by rw [IntKind.wrap_i64]; omega
          have u2 : IntKind.i64.wrap (q2 : Int) = (q2 : Int) := by rw [IntKind.wrap_i64]; omega
          have HA := fun nq => ears1_any (q1 : Int) (q2 : Int) (hE.out.go (below_drewN0 (Below.refl wr.heap.size wr) nq)) (by have := hC.out.2.1; omega)
          have HS : Hid (C2P v (k + 1 + 1) (addL (v : Int) es (q1 : Int) (q2 : Int))) := Lib.hid ⟨addL_right hC.out.1, Nat.le_trans addL_len (by have := hC.out.2.1; omega), fun u hu => addL_more (hC.out.2.2 u hu)⟩
          clear hz1 hz2 hcA hC
          go_wp2_with fail
          (refine wp_region_rws [0, 0, 0, 0, 0, 0, 0, 0, 0, 0, 0, 0, 0, 0, 0, 0, 0, 0, 0, 0, 2] (by kernel_rfl) (by kernel_rfl) (by kernel_rfl) (fun _ _ d _ _ h => by cases d <;> exact h) ?_
           simp only [pickL, reduceIte, Nat.reduceEqDiff]
           repeat (go_big_quiet_step (fail))
           refine wpQuiet_nil ?_
           repeat (refine wpW_step ?_ ?_ ?_; rotate_left; focus (intro w1; go_simp; first | done | with_reducible rfl))
           refine wpW_nil ?_
           intro _ hw'
           obtain ⟨nq, hw''⟩ := hw'
           subst hw'')
          go_wp2_with (go_at_call 58; (with_reducible refine (HA nq).mono ?_); rintro e9 w1 ⟨rfl, A', c', hE'⟩)
          exact ⟨⟨k + 1 + 1, _, A', c', by go_num, by omega, hE', HS⟩, by simp [intOf]; omega⟩
        · have hC3 : Hid (C3P v 0 r3 es) := Lib.hid ⟨hC.out.1, by have := hC.out.2.1; omega, hC.out.2.2, fun h => by omega, fun j hj => by omega⟩
          have hcase : (¬ k + 1 < chords.length) ∨ (k + 1 < chords.length ∧ ¬ k < 20) := by omega
          clear hC hgo
          rcases hcase with h1 | ⟨h1, h2⟩
          · have d1 : decide ((k : Int) + 1 < (chords.length : Int)) = false := decide_eq_false (by omega)
            (go_upto_region 14 with fail
             go_wp2_with fail
             go_loopw [15, 16] (fun l i wr => ∃ (k N la : Nat) (es : List (Int × Int)) (A : Option Addr) (c : Nat), i = .int .i64 k ∧ k ≤ s ∧ l = .int .i64 la ∧ Hid (N = v + k ∧ la = lastN v k r3) ∧ Hid (EW w b (N : Int) es A c wr) ∧ Hid (C3P v k r3 es)) (fun _ i _ => s - (intOf i).toNat)
             case atStart => exact ⟨0, v, r3, es, A, c, rfl, Nat.zero_le _, rfl, ⟨rfl, by simp [lastN]⟩, hE, hC3⟩
             case round =>
               clear hE hC3
               obtain ⟨k, N, la, es, A, c, rfl, hk, rfl, hNN, hE, hC⟩ := hrel
               by_cases hlt : k < s
               · have i1 : (k : Int) < (s : Int) := by omega
                 obtain ⟨N1, hN1⟩ : ∃ N1, N1 = N + 1 := ⟨_, rfl⟩
                 have hNb : N ≤ 59 := by have := hNN.out.1; omega
                 have q1 : IntKind.i64.wrap ((N : Int) + 1) = (N1 : Int) := by rw [IntKind.wrap_i64]; omega
                 have q2 : IntKind.i64.wrap ((N1 : Int) - 1) = (N : Int) := by rw [IntKind.wrap_i64]; omega
                 have x0 := hE.out.box.c0
                 have f0 := hE.out.box.f0 0
                 have hE2 := hE.out.setN (N1 : Int)
                 have y0 := hE2.box.c0
                 have HA := ears1_any (la : Int) (N : Int) hE2 (by have := hC.out.2.1; omega)
                 have hsucc := hC.out.succ hn41 (by omega) hr3'
                 have h9 : ((v + k + 1 : Nat) : Int) = (N1 : Int) ∧ ((v + k : Nat) : Int) = (N : Int) ∧ ((lastN v k r3 : Nat) : Int) = (la : Int) := by have := hNN.out; omega
                 rw [h9.1, h9.2.1, h9.2.2] at hsucc
                 have HS := Lib.hid hsucc
                 have h10 : N1 = v + (k + 1) ∧ N = lastN v (k + 1) r3 := by
                   have := hNN.out
                   unfold lastN
                   rw [if_neg (by omega)]
                   omega
                 have H10 := Lib.hid h10
                 clear hsucc h9 h10 hE2 hN1
                 go_wp2_with (go_at_call 58; (with_reducible refine HA.mono ?_); rintro e9 w1 ⟨rfl, A', c', hE'⟩; have u0 := hE'.box.c0)
                 exact ⟨⟨k + 1, N1, N, _, A', c', by go_num, by omega, rfl, H10, hE', HS⟩, by simp [intOf]; omega⟩
               · obtain rfl : k = s := by omega
                 have i1 : ¬ (k : Int) < (k : Int) := by omega
                 have HN := Lib.hid (show N = v + k from hNN.out.1)
                 by_cases hs0 : k = 0
                 · have d8 : decide ((0 : Int) < (k : Int)) = false := decide_eq_false (by omega)
                   have hcr : RightP (N : Int) es ∧ CritG N (adjE es) := by
                     have := C3P.crit0 (by rw [hs0] at hC; exact hC.out) hodd hn3
                     rw [show N = v + 0 by have := HN.out; omega]
                     exact this
                   obtain ⟨wf, rfl⟩ : ∃ W : World, W = wr := ⟨_, rfl⟩
                   obtain ⟨es', rfl⟩ : ∃ L, L = es := ⟨_, rfl⟩
                   obtain ⟨Af, rfl⟩ : ∃ L, L = A := ⟨_, rfl⟩
                   obtain ⟨cf, rfl⟩ : ∃ L, L = c := ⟨_, rfl⟩
                   have hF := hE
                   clear hE hC
                   go_upto_region 22 with fail
                   (have x0 := hF.out.box.c0
                    have x1 := hF.out.box.c1
                    have HCR := Lib.hid hcr
                    have hN60 : N ≤ 60 := by have := HN.out; omega
                    obtain ⟨N1, hN1⟩ : ∃ N1, N1 = N + 1 := ⟨_, rfl⟩
                    have q5 : IntKind.i64.wrap ((N : Int) + 1) = (N1 : Int) := by rw [IntKind.wrap_i64]; omega
                    have hc1 : ((N + 1 : Nat) : Int) = (N1 : Int) := by omega
                    have HC1 := Lib.hid hc1
                    clear hN1 hc1
                    clear hcr
                    go_upto_region 23 with fail
                    have hX17 := Box2.new hF.out.box.below (.int .i64 (N1 : Int)) (.slice Af es'.length cf) 25
                    have hF2 := hF.out.go ((Below.refl wf.heap.size wf).alloc (Nat.le_refl _) (.cells #[Value.int .i64 (N1 : Int), Value.slice Af es'.length cf] 25))
                    generalize wf.alloc (.cells #[Value.int .i64 (N1 : Int), Value.slice Af es'.length cf] 25) = wg at hX17 hF2 ⊢
                    obtain ⟨b17, hb17⟩ : ∃ b, b = wf.heap.size := ⟨_, rfl⟩
                    rw [← hb17] at hX17 ⊢
                    have hR1 : RightP ((N + 1 : Nat) : Int) es' := HCR.out.1.upto (by omega) (by omega)
                    have hne1 : critB ((N + 1 : Nat) : Int) es' = false := critB_not fun h h2 => by
                      have := h2.odd (right_gr (n := N + 1) h)
                      have := HCR.out.2.odd (right_gr (n := N) HCR.out.1)
                      omega
                    have HTW := two_any hR1 HCR.out.1 HCR.out.2 wg hF2.rd hF2.cap
                    rw [HC1.out] at HTW hne1
                    have y0 := hF2.box.c0
                    have y1 := hF2.box.c1
                    have z0 := hX17.c0
                    have z1 := hX17.c1
                    have HF2 := Lib.hid hF2
                    have HX17 := Lib.hid hX17
                    clear x0 x1 hF2 hX17 hR1 hb17
                    go_upto_region 24 with (go_at_call 59; (with_reducible refine HTW.mono ?_); rintro e9 w5 ⟨n5, L5, A5, c5, err5, rfl, hc5, hr5, hcb5, hb5⟩)
                    have hF3 := (HF2.out.go hb5).go ((Below.refl w5.heap.size w5).alloc (Nat.le_refl _) (.cells #[Value.int .i64 n5, Value.slice A5 L5.length c5] 25))
                    have hX3 := (HX17.out.go hb5).old (.cells #[Value.int .i64 n5, Value.slice A5 L5.length c5] 25)
                    have hY3 := Box2.new (HX17.out.go hb5).below (.int .i64 n5) (.slice A5 L5.length c5) 25
                    have hr6 := hr5.below ((Below.refl w5.heap.size w5).alloc (Nat.le_refl _) (.cells #[Value.int .i64 n5, Value.slice A5 L5.length c5] 25))
                    generalize w5.alloc (.cells #[Value.int .i64 n5, Value.slice A5 L5.length c5] 25) = w6 at hF3 hX3 hY3 hr6 ⊢
                    have HC : Hid (∀ W, Below w6.heap.size w6 W → (W.cell? ⟨b, 0, none⟩ = some (.int .i64 (N : Int)) ∧ W.cell? ⟨b, 1, none⟩ = some (.slice Af es'.length cf)) ∧ (W.cell? ⟨b17, 0, none⟩ = some (.int .i64 (N1 : Int)) ∧ W.cell? ⟨b17, 1, none⟩ = some (.slice Af es'.length cf)) ∧ (W.cell? ⟨w5.heap.size, 0, none⟩ = some (.int .i64 n5) ∧ W.cell? ⟨w5.heap.size, 1, none⟩ = some (.slice A5 L5.length c5))) := fun W h => ⟨⟨(hF3.go h).box.c0, (hF3.go h).box.c1⟩, ⟨(hX3.go h).c0, (hX3.go h).c1⟩, ⟨(hY3.go h).c0, (hY3.go h).c1⟩⟩
                    have hl6 : es'.length ≤ 4611686018427387903 ∧ L5.length ≤ 4611686018427387903 := by have := HCR.out.1.len; have := hcb5.2; omega
                    have HI1 := fun (W : World) (h : Below w6.heap.size w6 W) => is_any (N : Int) es' Af cf W (hF3.go h).rd (hF3.go h).cap hl6.1
                    have HI2 := fun (W : World) (h : Below w6.heap.size w6 W) => is_any (N1 : Int) es' Af cf W (hF3.go h).rd (hF3.go h).cap hl6.1
                    have HI3 := fun (W : World) (h : Below w6.heap.size w6 W) => is_any n5 L5 A5 c5 W (hr6.below h) hc5 hl6.2
                    rw [critB_of HCR.out.1 HCR.out.2] at HI1
                    rw [hne1] at HI2
                    rw [hcb5.1] at HI3
                    have HBF := Lib.hid hF3.box.below
                    clear y0 y1 z0 z1 hl6 hne1 hb5 hr5
                    go_wp2_with (first
                      | (go_at_call 54; refine (awake15 _).mono ?_; rintro e9 w7 ⟨rfl, hb7⟩; obtain ⟨⟨p0, p1⟩, ⟨p2, p3⟩, p4, p5⟩ := HC.out _ hb7)
                      | (go_at_call 55; (with_reducible refine (HI1 _ hb7).mono ?_); rintro e9 w8 ⟨rfl, hb8'⟩; have hb8 := hb7.trans (hb8'.mono hb7.size); clear p0 p1 p2 p3 p4 p5; obtain ⟨⟨p0, p1⟩, ⟨p2, p3⟩, p4, p5⟩ := HC.out _ hb8)
                      | (go_at_call 55; (with_reducible refine (HI2 _ hb8).mono ?_); rintro e9 w9 ⟨rfl, hb9'⟩; have hb9 := hb8.trans (hb9'.mono hb8.size); clear p0 p1 p2 p3 p4 p5; obtain ⟨⟨p0, p1⟩, ⟨p2, p3⟩, p4, p5⟩ := HC.out _ hb9)
                      | (go_at_call 55; (with_reducible refine (HI3 _ hb9).mono ?_); rintro e9 w10 ⟨rfl, hb10'⟩; have hb10 := hb9.trans (hb10'.mono hb9.size)))
                    go_ret
                    exact ⟨rfl, HBF.out.trans (hb10.mono HBF.out.size)⟩)
                 · have d8 : decide ((0 : Int) < (k : Int)) = true := decide_eq_true (by omega)
                   have HA := ears1_any (la : Int) (r4 : Int) hE.out (by have := hC.out.2.1; omega)
                   have hcr0 := hC.out.crit hodd hn3 hn41 hsev hs18 hr3' hr4' (by omega)
                   have h9 : ((v + k : Nat) : Int) = (N : Int) ∧ ((lastN v k r3 : Nat) : Int) = (la : Int) ∧ v + k = N := by have := hNN.out; omega
                   rw [h9.1, h9.2.1, h9.2.2] at hcr0
                   have HCR0 := Lib.hid hcr0
                   clear hcr0 h9 hC
                   go_upto_region 22 with (go_at_call 58; (with_reducible refine HA.mono ?_); rintro e9 w1 ⟨rfl, A', c', hE'⟩)
                   have hcr := HCR0.out
                   generalize addL (N : Int) es (la : Int) (r4 : Int) = es' at hcr hE' ⊢
                   obtain ⟨wf, rfl⟩ : ∃ W : World, W = w1 := ⟨_, rfl⟩
                   obtain ⟨Af, rfl⟩ : ∃ L, L = A' := ⟨_, rfl⟩
                   obtain ⟨cf, rfl⟩ : ∃ L, L = c' := ⟨_, rfl⟩
                   have hF := Lib.hid hE'
                   clear hE hE' HCR0
                   (have x0 := hF.out.box.c0
                    have x1 := hF.out.box.c1
                    have HCR := Lib.hid hcr
                    have hN60 : N ≤ 60 := by have := HN.out; omega
                    obtain ⟨N1, hN1⟩ : ∃ N1, N1 = N + 1 := ⟨_, rfl⟩
                    have q5 : IntKind.i64.wrap ((N : Int) + 1) = (N1 : Int) := by rw [IntKind.wrap_i64]; omega
                    have hc1 : ((N + 1 : Nat) : Int) = (N1 : Int) := by omega
                    have HC1 := Lib.hid hc1
                    clear hN1 hc1
                    clear hcr
                    go_upto_region 23 with fail
                    have hX17 := Box2.new hF.out.box.below (.int .i64 (N1 : Int)) (.slice Af es'.length cf) 25
                    have hF2 := hF.out.go ((Below.refl wf.heap.size wf).alloc (Nat.le_refl _) (.cells #[Value.int .i64 (N1 : Int), Value.slice Af es'.length cf] 25))
                    generalize wf.alloc (.cells #[Value.int .i64 (N1 : Int), Value.slice Af es'.length cf] 25) = wg at hX17 hF2 ⊢
                    obtain ⟨b17, hb17⟩ : ∃ b, b = wf.heap.size := ⟨_, rfl⟩
                    rw [← hb17] at hX17 ⊢
                    have hR1 : RightP ((N + 1 : Nat) : Int) es' := HCR.out.1.upto (by omega) (by omega)
                    have hne1 : critB ((N + 1 : Nat) : Int) es' = false := critB_not fun h h2 => by
                      have := h2.odd (right_gr (n := N + 1) h)
                      have := HCR.out.2.odd (right_gr (n := N) HCR.out.1)
                      omega
                    have HTW := two_any hR1 HCR.out.1 HCR.out.2 wg hF2.rd hF2.cap
                    rw [HC1.out] at HTW hne1
                    have y0 := hF2.box.c0
                    have y1 := hF2.box.c1
                    have z0 := hX17.c0
                    have z1 := hX17.c1
                    have HF2 := Lib.hid hF2
                    have HX17 := Lib.hid hX17
                    clear x0 x1 hF2 hX17 hR1 hb17
                    go_upto_region 24 with (go_at_call 59; (with_reducible refine HTW.mono ?_); rintro e9 w5 ⟨n5, L5, A5, c5, err5, rfl, hc5, hr5, hcb5, hb5⟩)
                    have hF3 := (HF2.out.go hb5).go ((Below.refl w5.heap.size w5).alloc (Nat.le_refl _) (.cells #[Value.int .i64 n5, Value.slice A5 L5.length c5] 25))
                    have hX3 := (HX17.out.go hb5).old (.cells #[Value.int .i64 n5, Value.slice A5 L5.length c5] 25)
                    have hY3 := Box2.new (HX17.out.go hb5).below (.int .i64 n5) (.slice A5 L5.length c5) 25
                    have hr6 := hr5.below ((Below.refl w5.heap.size w5).alloc (Nat.le_refl _) (.cells #[Value.int .i64 n5, Value.slice A5 L5.length c5] 25))
                    generalize w5.alloc (.cells #[Value.int .i64 n5, Value.slice A5 L5.length c5] 25) = w6 at hF3 hX3 hY3 hr6 ⊢
                    have HC : Hid (∀ W, Below w6.heap.size w6 W → (W.cell? ⟨b, 0, none⟩ = some (.int .i64 (N : Int)) ∧ W.cell? ⟨b, 1, none⟩ = some (.slice Af es'.length cf)) ∧ (W.cell? ⟨b17, 0, none⟩ = some (.int .i64 (N1 : Int)) ∧ W.cell? ⟨b17, 1, none⟩ = some (.slice Af es'.length cf)) ∧ (W.cell? ⟨w5.heap.size, 0, none⟩ = some (.int .i64 n5) ∧ W.cell? ⟨w5.heap.size, 1, none⟩ = some (.slice A5 L5.length c5))) := fun W h => ⟨⟨(hF3.go h).box.c0, (hF3.go h).box.c1⟩, ⟨(hX3.go h).c0, (hX3.go h).c1⟩, ⟨(hY3.go h).c0, (hY3.go h).c1⟩⟩
                    have hl6 : es'.length ≤ 4611686018427387903 ∧ L5.length ≤ 4611686018427387903 := by have := HCR.out.1.len; have := hcb5.2; omega
                    have HI1 := fun (W : World) (h : Below w6.heap.size w6 W) => is_any (N : Int) es' Af cf W (hF3.go h).rd (hF3.go h).cap hl6.1
                    have HI2 := fun (W : World) (h : Below w6.heap.size w6 W) => is_any (N1 : Int) es' Af cf W (hF3.go h).rd (hF3.go h).cap hl6.1
                    have HI3 := fun (W : World) (h : Below w6.heap.size w6 W) => is_any n5 L5 A5 c5 W (hr6.below h) hc5 hl6.2
                    rw [critB_of HCR.out.1 HCR.out.2] at HI1
                    rw [hne1] at HI2
                    rw [hcb5.1] at HI3
                    have HBF := Lib.hid hF3.box.below
                    clear y0 y1 z0 z1 hl6 hne1 hb5 hr5
                    go_wp2_with (first
                      | (go_at_call 54; refine (awake15 _).mono ?_; rintro e9 w7 ⟨rfl, hb7⟩; obtain ⟨⟨p0, p1⟩, ⟨p2, p3⟩, p4, p5⟩ := HC.out _ hb7)
                      | (go_at_call 55; (with_reducible refine (HI1 _ hb7).mono ?_); rintro e9 w8 ⟨rfl, hb8'⟩; have hb8 := hb7.trans (hb8'.mono hb7.size); clear p0 p1 p2 p3 p4 p5; obtain ⟨⟨p0, p1⟩, ⟨p2, p3⟩, p4, p5⟩ := HC.out _ hb8)
                      | (go_at_call 55; (with_reducible refine (HI2 _ hb8).mono ?_); rintro e9 w9 ⟨rfl, hb9'⟩; have hb9 := hb8.trans (hb9'.mono hb8.size); clear p0 p1 p2 p3 p4 p5; obtain ⟨⟨p0, p1⟩, ⟨p2, p3⟩, p4, p5⟩ := HC.out _ hb9)
                      | (go_at_call 55; (with_reducible refine (HI3 _ hb9).mono ?_); rintro e9 w10 ⟨rfl, hb10'⟩; have hb10 := hb9.trans (hb10'.mono hb9.size)))
                    go_ret
                    exact ⟨rfl, HBF.out.trans (hb10.mono HBF.out.size)⟩))
          · have d1 : decide ((k : Int) + 1 < (chords.length : Int)) = true := decide_eq_true (by omega)
            have d2 : decide ((k : Int) < 20) = false := decide_eq_false (by omega)
            (go_upto_region 14 with fail
             go_wp2_with fail
             go_loopw [15, 16] (fun l i wr => ∃ (k N la : Nat) (es : List (Int × Int)) (A : Option Addr) (c : Nat), i = .int .i64 k ∧ k ≤ s ∧ l = .int .i64 la ∧ Hid (N = v + k ∧ la = lastN v k r3) ∧ Hid (EW w b (N : Int) es A c wr) ∧ Hid (C3P v k r3 es)) (fun _ i _ => s - (intOf i).toNat)
             case atStart => exact ⟨0, v, r3, es, A, c, rfl, Nat.zero_le _, rfl, ⟨rfl, by simp [lastN]⟩, hE, hC3⟩
             case round =>
               clear hE hC3
               obtain ⟨k, N, la, es, A, c, rfl, hk, rfl, hNN, hE, hC⟩ := hrel
               by_cases hlt : k < s
               · have i1 : (k : Int) < (s : Int) := by omega
                 obtain ⟨N1, hN1⟩ : ∃ N1, N1 = N + 1 := ⟨_, rfl⟩
                 have hNb : N ≤ 59 := by have := hNN.out.1; omega
                 have q1 : IntKind.i64.wrap ((N : Int) + 1) = (N1 : Int) := by rw [IntKind.wrap_i64]; omega
                 have q2 : IntKind.i64.wrap ((N1 : Int) - 1) = (N : Int) := by rw [IntKind.wrap_i64]; omega
                 have x0 := hE.out.box.c0
                 have f0 := hE.out.box.f0 0
                 have hE2 := hE.out.setN (N1 : Int)
                 have y0 := hE2.box.c0
                 have HA := ears1_any (la : Int) (N : Int) hE2 (by have := hC.out.2.1; omega)
                 have hsucc := hC.out.succ hn41 (by omega) hr3'
                 have h9 : ((v + k + 1 : Nat) : Int) = (N1 : Int) ∧ ((v + k : Nat) : Int) = (N : Int) ∧ ((lastN v k r3 : Nat) : Int) = (la : Int) := by have := hNN.out; omega
                 rw [h9.1, h9.2.1, h9.2.2] at hsucc
                 have HS := Lib.hid hsucc
                 have h10 : N1 = v + (k + 1) ∧ N = lastN v (k + 1) r3 := by
                   have := hNN.out
                   unfold lastN
                   rw [if_neg (by omega)]
                   omega
                 have H10 := Lib.hid h10
                 clear hsucc h9 h10 hE2 hN1
                 go_wp2_with (go_at_call 58; (with_reducible refine HA.mono ?_); rintro e9 w1 ⟨rfl, A', c', hE'⟩; have u0 := hE'.box.c0)
                 exact ⟨⟨k + 1, N1, N, _, A', c', by go_num, by omega, rfl, H10, hE', HS⟩, by simp [intOf]; omega⟩
               · obtain rfl : k = s := by omega
                 have i1 : ¬ (k : Int) < (k : Int) := by omega
                 have HN := Lib.hid (show N = v + k from hNN.out.1)
                 by_cases hs0 : k = 0
                 · have d8 : decide ((0 : Int) < (k : Int)) = false := decide_eq_false (by omega)
                   have hcr : RightP (N : Int) es ∧ CritG N (adjE es) := by
                     have := C3P.crit0 (by rw [hs0] at hC; exact hC.out) hodd hn3
                     rw [show N = v + 0 by have := HN.out; omega]
                     exact this
                   obtain ⟨wf, rfl⟩ : ∃ W : World, W = wr := ⟨_, rfl⟩
                   obtain ⟨es', rfl⟩ : ∃ L, L = es := ⟨_, rfl⟩
                   obtain ⟨Af, rfl⟩ : ∃ L, L = A := ⟨_, rfl⟩
                   obtain ⟨cf, rfl⟩ : ∃ L, L = c := ⟨_, rfl⟩
                   have hF := hE
                   clear hE hC
                   go_upto_region 22 with fail
                   (have x0 := hF.out.box.c0
                    have x1 := hF.out.box.c1
                    have HCR := Lib.hid hcr
                    have hN60 : N ≤ 60 := by have := HN.out; omega
                    obtain ⟨N1, hN1⟩ : ∃ N1, N1 = N + 1 := ⟨_, rfl⟩
                    have q5 : IntKind.i64.wrap ((N : Int) + 1) = (N1 : Int) := by rw [IntKind.wrap_i64]; omega
                    have hc1 : ((N + 1 : Nat) : Int) = (N1 : Int) := by omega
                    have HC1 := Lib.hid hc1
                    clear hN1 hc1
                    clear hcr
                    go_upto_region 23 with fail
                    have hX17 := Box2.new hF.out.box.below (.int .i64 (N1 : Int)) (.slice Af es'.length cf) 25
                    have hF2 := hF.out.go ((Below.refl wf.heap.size wf).alloc (Nat.le_refl _) (.cells #[Value.int .i64 (N1 : Int), Value.slice Af es'.length cf] 25))
                    generalize wf.alloc (.cells #[Value.int .i64 (N1 : Int), Value.slice Af es'.length cf] 25) = wg at hX17 hF2 ⊢
                    obtain ⟨b17, hb17⟩ : ∃ b, b = wf.heap.size := ⟨_, rfl⟩
                    rw [← hb17] at hX17 ⊢
                    have hR1 : RightP ((N + 1 : Nat) : Int) es' := HCR.out.1.upto (by omega) (by omega)
                    have hne1 : critB ((N + 1 : Nat) : Int) es' = false := critB_not fun h h2 => by
                      have := h2.odd (right_gr (n := N + 1) h)
                      have := HCR.out.2.odd (right_gr (n := N) HCR.out.1)
                      omega
                    have HTW := two_any hR1 HCR.out.1 HCR.out.2 wg hF2.rd hF2.cap
                    rw [HC1.out] at HTW hne1
                    have y0 := hF2.box.c0
                    have y1 := hF2.box.c1
                    have z0 := hX17.c0
                    have z1 := hX17.c1
                    have HF2 := Lib.hid hF2
                    have HX17 := Lib.hid hX17
                    clear x0 x1 hF2 hX17 hR1 hb17
                    go_upto_region 24 with (go_at_call 59; (with_reducible refine HTW.mono ?_); rintro e9 w5 ⟨n5, L5, A5, c5, err5, rfl, hc5, hr5, hcb5, hb5⟩)
                    have hF3 := (HF2.out.go hb5).go ((Below.refl w5.heap.size w5).alloc (Nat.le_refl _) (.cells #[Value.int .i64 n5, Value.slice A5 L5.length c5] 25))
                    have hX3 := (HX17.out.go hb5).old (.cells #[Value.int .i64 n5, Value.slice A5 L5.length c5] 25)
                    have hY3 := Box2.new (HX17.out.go hb5).below (.int .i64 n5) (.slice A5 L5.length c5) 25
                    have hr6 := hr5.below ((Below.refl w5.heap.size w5).alloc (Nat.le_refl _) (.cells #[Value.int .i64 n5, Value.slice A5 L5.length c5] 25))
                    generalize w5.alloc (.cells #[Value.int .i64 n5, Value.slice A5 L5.length c5] 25) = w6 at hF3 hX3 hY3 hr6 ⊢
                    have HC : Hid (∀ W, Below w6.heap.size w6 W → (W.cell? ⟨b, 0, none⟩ = some (.int .i64 (N : Int)) ∧ W.cell? ⟨b, 1, none⟩ = some (.slice Af es'.length cf)) ∧ (W.cell? ⟨b17, 0, none⟩ = some (.int .i64 (N1 : Int)) ∧ W.cell? ⟨b17, 1, none⟩ = some (.slice Af es'.length cf)) ∧ (W.cell? ⟨w5.heap.size, 0, none⟩ = some (.int .i64 n5) ∧ W.cell? ⟨w5.heap.size, 1, none⟩ = some (.slice A5 L5.length c5))) := fun W h => ⟨⟨(hF3.go h).box.c0, (hF3.go h).box.c1⟩, ⟨(hX3.go h).c0, (hX3.go h).c1⟩, ⟨(hY3.go h).c0, (hY3.go h).c1⟩⟩
                    have hl6 : es'.length ≤ 4611686018427387903 ∧ L5.length ≤ 4611686018427387903 := by have := HCR.out.1.len; have := hcb5.2; omega
                    have HI1 := fun (W : World) (h : Below w6.heap.size w6 W) => is_any (N : Int) es' Af cf W (hF3.go h).rd (hF3.go h).cap hl6.1
                    have HI2 := fun (W : World) (h : Below w6.heap.size w6 W) => is_any (N1 : Int) es' Af cf W (hF3.go h).rd (hF3.go h).cap hl6.1
                    have HI3 := fun (W : World) (h : Below w6.heap.size w6 W) => is_any n5 L5 A5 c5 W (hr6.below h) hc5 hl6.2
                    rw [critB_of HCR.out.1 HCR.out.2] at HI1
                    rw [hne1] at HI2
                    rw [hcb5.1] at HI3
                    have HBF := Lib.hid hF3.box.below
                    clear y0 y1 z0 z1 hl6 hne1 hb5 hr5
                    go_wp2_with (first
                      | (go_at_call 54; refine (awake15 _).mono ?_; rintro e9 w7 ⟨rfl, hb7⟩; obtain ⟨⟨p0, p1⟩, ⟨p2, p3⟩, p4, p5⟩ := HC.out _ hb7)
                      | (go_at_call 55; (with_reducible refine (HI1 _ hb7).mono ?_); rintro e9 w8 ⟨rfl, hb8'⟩; have hb8 := hb7.trans (hb8'.mono hb7.size); clear p0 p1 p2 p3 p4 p5; obtain ⟨⟨p0, p1⟩, ⟨p2, p3⟩, p4, p5⟩ := HC.out _ hb8)
                      | (go_at_call 55; (with_reducible refine (HI2 _ hb8).mono ?_); rintro e9 w9 ⟨rfl, hb9'⟩; have hb9 := hb8.trans (hb9'.mono hb8.size); clear p0 p1 p2 p3 p4 p5; obtain ⟨⟨p0, p1⟩, ⟨p2, p3⟩, p4, p5⟩ := HC.out _ hb9)
                      | (go_at_call 55; (with_reducible refine (HI3 _ hb9).mono ?_); rintro e9 w10 ⟨rfl, hb10'⟩; have hb10 := hb9.trans (hb10'.mono hb9.size)))
                    go_ret
                    exact ⟨rfl, HBF.out.trans (hb10.mono HBF.out.size)⟩)
                 · have d8 : decide ((0 : Int) < (k : Int)) = true := decide_eq_true (by omega)
                   have HA := ears1_any (la : Int) (r4 : Int) hE.out (by have := hC.out.2.1; omega)
                   have hcr0 := hC.out.crit hodd hn3 hn41 hsev hs18 hr3' hr4' (by omega)
                   have h9 : ((v + k : Nat) : Int) = (N : Int) ∧ ((lastN v k r3 : Nat) : Int) = (la : Int) ∧ v + k = N := by have := hNN.out; omega
                   rw [h9.1, h9.2.1, h9.2.2] at hcr0
                   have HCR0 := Lib.hid hcr0
                   clear hcr0 h9 hC
                   go_upto_region 22 with (go_at_call 58; (with_reducible refine HA.mono ?_); rintro e9 w1 ⟨rfl, A', c', hE'⟩)
                   have hcr := HCR0.out
                   generalize addL (N : Int) es (la : Int) (r4 : Int) = es' at hcr hE' ⊢
                   obtain ⟨wf, rfl⟩ : ∃ W : World, W = w1 := ⟨_, rfl⟩
                   obtain ⟨Af, rfl⟩ : ∃ L, L = A' := ⟨_, rfl⟩
                   obtain ⟨cf, rfl⟩ : ∃ L, L = c' := ⟨_, rfl⟩
                   have hF := Lib.hid hE'
                   clear hE hE' HCR0
                   (have x0 := hF.out.box.c0
                    have x1 := hF.out.box.c1
                    have HCR := Lib.hid hcr
                    have hN60 : N ≤ 60 := by have := HN.out; omega
                    obtain ⟨N1, hN1⟩ : ∃ N1, N1 = N + 1 := ⟨_, rfl⟩
                    have q5 : IntKind.i64.wrap ((N : Int) + 1) = (N1 : Int) := by rw [IntKind.wrap_i64]; omega
                    have hc1 : ((N + 1 : Nat) : Int) = (N1 : Int) := by omega
                    have HC1 := Lib.hid hc1
                    clear hN1 hc1
                    clear hcr
                    go_upto_region 23 with fail
                    have hX17 := Box2.new hF.out.box.below (.int .i64 (N1 : Int)) (.slice Af es'.length cf) 25
                    have hF2 := hF.out.go ((Below.refl wf.heap.size wf).alloc (Nat.le_refl _) (.cells #[Value.int .i64 (N1 : Int), Value.slice Af es'.length cf] 25))
                    generalize wf.alloc (.cells #[Value.int .i64 (N1 : Int), Value.slice Af es'.length cf] 25) = wg at hX17 hF2 ⊢
                    obtain ⟨b17, hb17⟩ : ∃ b, b = wf.heap.size := ⟨_, rfl⟩
                    rw [← hb17] at hX17 ⊢
                    have hR1 : RightP ((N + 1 : Nat) : Int) es' := HCR.out.1.upto (by omega) (by omega)
                    have hne1 : critB ((N + 1 : Nat) : Int) es' = false := critB_not fun h h2 => by
                      have := h2.odd (right_gr (n := N + 1) h)
                      have := HCR.out.2.odd (right_gr (n := N) HCR.out.1)
                      omega
                    have HTW := two_any hR1 HCR.out.1 HCR.out.2 wg hF2.rd hF2.cap
                    rw [HC1.out] at HTW hne1
                    have y0 := hF2.box.c0
                    have y1 := hF2.box.c1
                    have z0 := hX17.c0
                    have z1 := hX17.c1
                    have HF2 := Lib.hid hF2
                    have HX17 := Lib.hid hX17
                    clear x0 x1 hF2 hX17 hR1 hb17
                    go_upto_region 24 with (go_at_call 59; (with_reducible refine HTW.mono ?_); rintro e9 w5 ⟨n5, L5, A5, c5, err5, rfl, hc5, hr5, hcb5, hb5⟩)
                    have hF3 := (HF2.out.go hb5).go ((Below.refl w5.heap.size w5).alloc (Nat.le_refl _) (.cells #[Value.int .i64 n5, Value.slice A5 L5.length c5] 25))
                    have hX3 := (HX17.out.go hb5).old (.cells #[Value.int .i64 n5, Value.slice A5 L5.length c5] 25)
                    have hY3 := Box2.new (HX17.out.go hb5).below (.int .i64 n5) (.slice A5 L5.length c5) 25
                    have hr6 := hr5.below ((Below.refl w5.heap.size w5).alloc (Nat.le_refl _) (.cells #[Value.int .i64 n5, Value.slice A5 L5.length c5] 25))
                    generalize w5.alloc (.cells #[Value.int .i64 n5, Value.slice A5 L5.length c5] 25) = w6 at hF3 hX3 hY3 hr6 ⊢
                    have HC : Hid (∀ W, Below w6.heap.size w6 W → (W.cell? ⟨b, 0, none⟩ = some (.int .i64 (N : Int)) ∧ W.cell? ⟨b, 1, none⟩ = some (.slice Af es'.length cf)) ∧ (W.cell? ⟨b17, 0, none⟩ = some (.int .i64 (N1 : Int)) ∧ W.cell? ⟨b17, 1, none⟩ = some (.slice Af es'.length cf)) ∧ (W.cell? ⟨w5.heap.size, 0, none⟩ = some (.int .i64 n5) ∧ W.cell? ⟨w5.heap.size, 1, none⟩ = some (.slice A5 L5.length c5))) := fun W h => ⟨⟨(hF3.go h).box.c0, (hF3.go h).box.c1⟩, ⟨(hX3.go h).c0, (hX3.go h).c1⟩, ⟨(hY3.go h).c0, (hY3.go h).c1⟩⟩
                    have hl6 : es'.length ≤ 4611686018427387903 ∧ L5.length ≤ 4611686018427387903 := by have := HCR.out.1.len; have := hcb5.2; omega
                    have HI1 := fun (W : World) (h : Below w6.heap.size w6 W) => is_any (N : Int) es' Af cf W (hF3.go h).rd (hF3.go h).cap hl6.1
                    have HI2 := fun (W : World) (h : Below w6.heap.size w6 W) => is_any (N1 : Int) es' Af cf W (hF3.go h).rd (hF3.go h).cap hl6.1
                    have HI3 := fun (W : World) (h : Below w6.heap.size w6 W) => is_any n5 L5 A5 c5 W (hr6.below h) hc5 hl6.2
                    rw [critB_of HCR.out.1 HCR.out.2] at HI1
                    rw [hne1] at HI2
                    rw [hcb5.1] at HI3
                    have HBF := Lib.hid hF3.box.below
                    clear y0 y1 z0 z1 hl6 hne1 hb5 hr5
                    go_wp2_with (first
                      | (go_at_call 54; refine (awake15 _).mono ?_; rintro e9 w7 ⟨rfl, hb7⟩; obtain ⟨⟨p0, p1⟩, ⟨p2, p3⟩, p4, p5⟩ := HC.out _ hb7)
                      | (go_at_call 55; (with_reducible refine (HI1 _ hb7).mono ?_); rintro e9 w8 ⟨rfl, hb8'⟩; have hb8 := hb7.trans (hb8'.mono hb7.size); clear p0 p1 p2 p3 p4 p5; obtain ⟨⟨p0, p1⟩, ⟨p2, p3⟩, p4, p5⟩ := HC.out _ hb8)
                      | (go_at_call 55; (with_reducible refine (HI2 _ hb8).mono ?_); rintro e9 w9 ⟨rfl, hb9'⟩; have hb9 := hb8.trans (hb9'.mono hb8.size); clear p0 p1 p2 p3 p4 p5; obtain ⟨⟨p0, p1⟩, ⟨p2, p3⟩, p4, p5⟩ := HC.out _ hb9)
                      | (go_at_call 55; (with_reducible refine (HI3 _ hb9).mono ?_); rintro e9 w10 ⟨rfl, hb10'⟩; have hb10 := hb9.trans (hb10'.mono hb9.size)))
                    go_ret
                    exact ⟨rfl, HBF.out.trans (hb10.mono HBF.out.size)⟩))
end Go.Proofs.Ytgddfmfiiodgbaa
