/- SingleStems, walked. -/
import Derived.Test.YtgddfmfiiodgbaaU39
import Derived.Test.YtgddfmfiiodgbaaU38
import Derived.Test.YtgddfmfiiodgbaaU40
namespace Go.Proofs.Ytgddfmfiiodgbaa
open Go Go.RowKit
set_option maxRecDepth 100000
set_option linter.unusedVariables false
set_option linter.unusedSimpArgs false

/-- The cycle, and so much of the stem. -/
structure StP (n j : Nat) (es : List (Int × Int)) : Prop where
  right : RightP ((n + j : Nat) : Int) es
  len : es.length = n + j
  cyc : ∀ v, v < n → adjE es v ((v + 1) % n)
  stem : ∀ i, i < j → adjE es (stU n i) (n + i)

theorem nodup_lt_len {p : List Nat} {n : Nat} (hn : p.Nodup) (h : ∀ x ∈ p, x < n) : p.length ≤ n := by
  have := len_le_rel (fun a b : Nat => a = b) (fun a a' b h h' => h.trans h'.symm) p (List.range n) hn fun a ha => ⟨a, by simpa using h a ha, rfl⟩
  simpa using this
theorem RightP.more {n m : Int} {es : List (Int × Int)} (h : RightP n es) (hm : n ≤ m) (hm2 : m ≤ 4096) : RightP m es :=
  ⟨by have := h.n0; omega, hm2, h.len, fun e he => by have := h.ok e he; omega, h.inc⟩
theorem new_err0 {n : Nat} {es : List (Int × Int)} (h : RightP (n : Int) es) (hn : n < 4096) (hl : es.length < 65536) {a : Nat} (ha : a < n) : addErr ((n + 1 : Nat) : Int) es (a : Int) (n : Int) = 0 := by
  have hR := h.more (m := ((n + 1 : Nat) : Int)) (by omega) (by omega)
  refine Classical.byContradiction fun he => ?_
  have h1 := add_has (n := n + 1) hR (a := a) (b := n) (by omega) (by omega) (by omega) hl he
  have := (right_gr (n := n) h).lt h1.symm
  omega
theorem StP.succ {n j : Nat} {es : List (Int × Int)} (h : StP n j es) (hr : RightP ((n + j + 1 : Nat) : Int) (putE es (min (stU n j : Int) ((n + j : Nat) : Int), max (stU n j : Int) ((n + j : Nat) : Int)))) : StP n (j + 1) (putE es (min (stU n j : Int) ((n + j : Nat) : Int), max (stU n j : Int) ((n + j : Nat) : Int))) := by
  refine ⟨hr, by rw [putE_length, h.len]; omega, fun v hv => (put_adj_iff _ _).2 (.inl (h.cyc v hv)), fun i hi => (put_adj_iff _ _).2 ?_⟩
  by_cases e : i = j
  · subst e; exact .inr (.inl ⟨rfl, rfl⟩)
  · exact .inl (h.stem i (by omega))

theorem mateL_snoc (n : Nat) (M : Nat → Option Nat) : mateL (n + 1) M = mateL n M ++ [encO (M n)] := by unfold mateL; rw [List.range_succ]; simp
theorem mateL_congr {n : Nat} {M M' : Nat → Option Nat} (h : ∀ v, v < n → M v = M' v) : mateL n M = mateL n M' := by unfold mateL; exact List.map_congr_left fun v hv => by rw [h v (by simpa using hv)]
theorem mateL_new {N : Nat} {M : Nat → Option Nat} : mateL N M ++ [-1] = mateL (N + 1) fun v => if v = N then none else M v := by
  rw [mateL_snoc, if_pos rfl]
  congr 1
  exact mateL_congr fun v hv => by rw [if_neg (by omega)]
/-- The graph in its block, the mates in their own row. -/
structure StW (w : World) (b7 : Nat) (N : Int) (es : List (Int × Int)) (A : Option Addr) (c : Nat) (v : Value) (l : List Int) (wr : World) : Prop where
  box : Box2 w b7 (.int .i64 N) (.slice A es.length c) 25 wr
  rd : Reads wr A (pcells es)
  cap : es.length ≤ c
  ne : ∀ q, A = some q → q.block ≠ b7 ∧ q.block < wr.heap.size
  own : OwnI w wr v l
  vne : ∀ g, v.ownBlock = some g → g ≠ b7 ∧ g < wr.heap.size
  ane : ∀ q g, A = some q → v.ownBlock = some g → q.block ≠ g
  hb : w.heap.size ≤ b7

section
variable {w wr : World} {b7 : Nat} {N : Int} {es : List (Int × Int)} {A : Option Addr} {c : Nat} {v : Value} {l : List Int}
theorem StW.go {wd : World} (h : StW w b7 N es A c v l wr) (hb : Below wr.heap.size wr wd) : StW w b7 N es A c v l wd :=
  ⟨h.box.go hb, h.rd.below hb, h.cap, fun q hq => ⟨(h.ne q hq).1, Nat.lt_of_lt_of_le (h.ne q hq).2 hb.size⟩, h.own.go hb, fun g hg => ⟨(h.vne g hg).1, Nat.lt_of_lt_of_le (h.vne g hg).2 hb.size⟩, h.ane, h.hb⟩
theorem StW.app {v' : Value} {w' : World} {x : Int} {T : TypeId} (h : StW w b7 N es A c v l wr) (ho : OwnI w w' v' (l ++ [x])) (hg : (wr.alloc (.cells #[.int .i64 x] T)).grownBy w' v.ownBlock) (hat : v'.ownBlock = v.ownBlock ∨ v'.ownBlock = some (wr.heap.size + 1)) : StW w b7 N es A c v' (l ++ [x]) w' := by
  have hlt := h.box.lt
  have hsz : wr.heap.size + 1 ≤ w'.heap.size := by have := hg.size; rw [World.size_alloc] at this; exact this
  refine ⟨⟨(hg.block b7 (by rw [World.size_alloc]; omega) (fun e => (h.vne b7 e.symm).1 rfl)).trans (heap_old h.box.blk), ho.2⟩, Reads.grown (h.rd.below ((Below.refl _ _).alloc (Nat.le_refl _) _)) hg (fun a ha e => h.ane a _ ha e rfl), h.cap, fun q hq => ⟨(h.ne q hq).1, by have := (h.ne q hq).2; omega⟩, ho, fun g hg' => ?_, fun q g hq hg' => ?_, h.hb⟩
  · have h9 := (own_lt0 ho.1 g hg').2
    rcases hat with e | e
    · exact ⟨(h.vne g (by rw [← e]; exact hg')).1, h9⟩
    · rw [e] at hg'; cases hg'; exact ⟨by omega, h9⟩
  · rcases hat with e | e
    · exact h.ane q g hq (by rw [← e]; exact hg')
    · rw [e] at hg'; cases hg'; have := (h.ne q hq).2; omega
theorem StW.store {g m c8 : Nat} (h : StW w b7 N es A c (.slice (some ⟨g, 0, none⟩) m c8) l wr) (hm : l.length = m) (j : Nat) (hj : j < m) (x : Int) : StW w b7 N es A c (.slice (some ⟨g, 0, none⟩) m c8) (l.set j x) (wr.setCell ⟨g, j, none⟩ (.int .i64 x)) := by
  subst hm
  have hv := h.vne g rfl
  have hgb : w.heap.size ≤ g := (own_lt0 h.own.1 g rfl).1
  have hbt : But wr.heap.size g wr (wr.setCell ⟨g, j, none⟩ (.int .i64 x)) := (But.refl _ _ _).set j _
  refine ⟨⟨heap_far h.box.blk (by show b7 ≠ g; exact fun e => hv.1 e.symm) _, h.box.below.setCell (p := ⟨g, j, none⟩) hgb _⟩, h.rd.but hbt (fun p hp => h.ane p g hp rfl), h.cap, fun q hq => ⟨(h.ne q hq).1, by rw [World.size_setCell]; exact (h.ne q hq).2⟩, ⟨?_, h.own.2.setCell (p := ⟨g, j, none⟩) hgb _⟩, fun g' hg' => ⟨(h.vne g' hg').1, by rw [World.size_setCell]; exact (h.vne g' hg').2⟩, h.ane, h.hb⟩
  have := own_write h.own.1 j (by rw [icells_length]; exact hj) (.int .i64 x)
  rw [icells_set] at this
  rw [List.length_set]; exact this
theorem StW.turn (h : StW w b7 N es A c v l wr) (N' : Int) : StW w b7 N' es A c v l (wr.setCell ⟨b7, 0, none⟩ (.int .i64 N')) := by
  have hbt : But wr.heap.size b7 wr (wr.setCell ⟨b7, 0, none⟩ (.int .i64 N')) := (But.refl _ _ _).set 0 _
  have hbl : Below w.heap.size w (wr.setCell ⟨b7, 0, none⟩ (.int .i64 N')) := h.box.below.setCell (p := ⟨b7, 0, none⟩) h.hb _
  have hbk : (wr.setCell ⟨b7, 0, none⟩ (.int .i64 N')).heap[b7]? = some (.cells #[.int .i64 N', .slice A es.length c] 25 (0, 0)) := by
    have h1 := h.box.blk
    simp [World.setCell, Array.getElem?_modify, h1]
  exact ⟨⟨hbk, hbl⟩, h.rd.but hbt (fun p hp => (h.ne p hp).1), h.cap, fun q hq => ⟨(h.ne q hq).1, by rw [World.size_setCell]; exact (h.ne q hq).2⟩, h.own.far (fun g hg => Below.heap_setCell _ _ _ _ (by show g ≠ b7; exact (h.vne g hg).1)) hbl, fun g' hg' => ⟨(h.vne g' hg').1, by rw [World.size_setCell]; exact (h.vne g' hg').2⟩, h.ane, h.hb⟩
theorem StW.put {w1 : World} {es' : List (Int × Int)} {A' : Option Addr} {l' c' : Nat} (h : StW w b7 N es A c v l wr) (hb1 : Below wr.heap.size wr w1) (hl : l' = es'.length) (hc : l' ≤ c') (ho : w1.ownsRow wr.heap.size 49 2 (.slice A' l' c') l' (pcells es')) (N' : Int) :
    StW w b7 N' es' A' c' v l ((w1.setCell ⟨b7, 0, none⟩ (.int .i64 N')).setCell ⟨b7, 1, none⟩ (.slice A' l' c')) := by
  subst hl
  have hlt := h.box.lt
  have h1 := h.go hb1
  have hbx := h1.box.set h.hb (.int .i64 N') (.slice A' es'.length c')
  have ho2 := own_set (a := ⟨b7, 1, none⟩) (own_set (a := ⟨b7, 0, none⟩) ho hlt (.int .i64 N')) hlt (.slice A' es'.length c')
  have hA' : ∀ q, A' = some q → wr.heap.size ≤ q.block ∧ q.block < w1.heap.size := fun q hq => by
    subst hq; exact own_lt0 ho q.block rfl
  exact ⟨hbx, (own_reads1 ho2).1, hc, fun q hq => ⟨by have := (hA' q hq).1; omega, by rw [World.size_setCell, World.size_setCell]; exact (hA' q hq).2⟩,
    (h1.own.far (fun g hg => Below.heap_setCell _ _ _ _ (by show g ≠ b7; exact (h.vne g hg).1)) (h1.box.below.setCell (p := ⟨b7, 0, none⟩) h.hb _)).far (fun g hg => Below.heap_setCell _ _ _ _ (by show g ≠ b7; exact (h.vne g hg).1)) hbx.below,
    fun g' hg' => ⟨(h.vne g' hg').1, by rw [World.size_setCell, World.size_setCell]; exact (h1.vne g' hg').2⟩, fun q g hq hg => by have := (hA' q hq).1; have := (h.vne g hg).2; omega, h.hb⟩
end

set_option maxHeartbeats 8000000 in
theorem sstems_any (n0 s0 a0 : Int) (w : World) (hn1 : -9223372036854775808 ≤ n0) (hn2 : n0 ≤ 9223372036854775807) (hs1 : -9223372036854775808 ≤ s0) (hs2 : s0 ≤ 9223372036854775807) (ha1 : -9223372036854775808 ≤ a0) (ha2 : a0 ≤ 9223372036854775807) :
    Calls Try.prog 8 #[.int .i64 n0, .int .i64 s0, .int .i64 a0] w fun e w' => e = .returned (.bool true) ∧ Below w.heap.size w w' := by
  obtain ⟨r1, hr1, hr1'⟩ := umod n0 20 (by omega) (by omega)
  obtain ⟨r2, hr2, hr2'⟩ := umod s0 10 (by omega) (by omega)
  have e1 : (IntKind.u64.wrap n0).tmod 20 = (r1 : Int) := hr1
  have e2 : (IntKind.u64.wrap s0).tmod 10 = (r2 : Int) := hr2
  obtain ⟨n, hn⟩ : ∃ n, n = 3 + 2 * r1 := ⟨_, rfl⟩
  obtain ⟨s, hs⟩ : ∃ s, s = 2 * r2 := ⟨_, rfl⟩
  have f1 : IntKind.i64.wrap (r1 : Int) = (r1 : Int) := by rw [IntKind.wrap_i64]; omega
  have f2 : IntKind.i64.wrap (2 * (r1 : Int)) = 2 * (r1 : Int) := by rw [IntKind.wrap_i64]; omega
  have f3 : IntKind.i64.wrap (3 + 2 * (r1 : Int)) = (n : Int) := by rw [IntKind.wrap_i64]; omega
  have f4 : IntKind.i64.wrap (r2 : Int) = (r2 : Int) := by rw [IntKind.wrap_i64]; omega
  have f5 : IntKind.i64.wrap (2 * (r2 : Int)) = (s : Int) := by rw [IntKind.wrap_i64]; omega
  have hn3 : 3 ≤ n := by omega
  have hn41 : n ≤ 41 := by omega
  have hodd : n % 2 = 1 := by omega
  have hs18 : s ≤ 18 := by omega
  have hsev : s % 2 = 0 := by omega
  have HCY := cycle_any n w hn3 (by omega)
  clear hn hs hr1 hr1' hr2 hr2' hn1 hn2 hs1 hs2
  go_enter Try.func8, Try.ntmps8
  go_upto_region 3 with (go_at_call 46; (refine HCY.mono ?_; rintro e w1 ⟨es, A, c, rfl, hcy, hc, how, hb1⟩))
  have hcy' := Lib.hid hcy
  have hrow0 : ∀ q, A = some q → q.block < w1.heap.size := fun q hq => by subst hq; exact (own_lt0 how q.block rfl).2
  have hW2 : ∀ W, W = (w1.alloc (Obj.cells #[Value.int IntKind.i64 (n : Int), Value.slice A es.length c] 25)).alloc (Obj.cells #[Value.int IntKind.i64 (-1)] 3) →
      StW w w1.heap.size (n : Int) es A c (.slice (some ⟨w1.heap.size + 1, 0, none⟩) 1 1) (List.replicate 1 (-1)) W := fun W hW => by
    have hbA : Below w.heap.size w (w1.alloc (Obj.cells #[Value.int IntKind.i64 (n : Int), Value.slice A es.length c] 25)) := hb1.alloc hb1.size _
    have hbW : Below w.heap.size w W := by rw [hW]; exact hbA.alloc hbA.size _
    have hnew := heap_alloc_new (w1.alloc (Obj.cells #[Value.int IntKind.i64 (n : Int), Value.slice A es.length c] 25)) (Obj.cells #[Value.int IntKind.i64 (-1)] 3)
    rw [← hW, World.size_alloc] at hnew
    have hsW : W.heap.size = w1.heap.size + 2 := by rw [hW]; simp
    refine ⟨by rw [hW]; exact (Box2.new hb1 _ _ _).old _, by rw [hW]; exact ((own_reads1 how).1.below ((Below.refl _ _).alloc (Nat.le_refl _) _)).below ((Below.refl _ _).alloc (Nat.le_refl _) _), hc, fun q hq => ⟨by have := hrow0 q hq; omega, by have := hrow0 q hq; omega⟩, ⟨?_, hbW⟩, fun g hg => ?_, fun q g hq hg => ?_, hb1.size⟩
    · exact own_shut (cur := [Value.int IntKind.i64 (-1)]) (by have := hb1.size; omega) hnew (Nat.le_refl _) (by decide) rfl rfl
    · have hg' : w1.heap.size + 1 = g := by simpa [Value.ownBlock] using hg
      omega
    · have hg' : w1.heap.size + 1 = g := by simpa [Value.ownBlock] using hg
      have := hrow0 q hq; omega
  clear hcy
  go_upto_region 5 with fail
  have hS0 := hW2 _ rfl
  clear hW2 how hrow0
  generalize (w1.alloc (Obj.cells #[Value.int IntKind.i64 (n : Int), Value.slice A es.length c] 25)).alloc (Obj.cells #[Value.int IntKind.i64 (-1)] 3) = w3 at hS0 ⊢
  obtain ⟨b7, hb7⟩ : ∃ b, b = w1.heap.size := ⟨_, rfl⟩
  rw [← hb7] at hS0 ⊢
  have HS0 := Lib.hid hS0
  clear hS0 hb1 hb7
  go_loopw [8, 9] (fun v8 v9 wr => ∃ (k : Nat), v9 = .int .i64 k ∧ 1 ≤ k ∧ k ≤ n ∧ Hid (StW w b7 (n : Int) es A c v8 (List.replicate k (-1)) wr)) (fun _ v9 _ => n - (intOf v9).toNat)
  case atStart => exact ⟨1, rfl, Nat.le_refl _, by omega, HS0⟩
  case round =>
    clear HS0
    obtain ⟨k, rfl, hk1, hk, hS⟩ := hrel
    by_cases hlt : k < n
    · have i1 : (k : Int) < (n : Int) := by omega
      obtain ⟨A0, c0, rfl, hc0, _⟩ := hS.out.own.slice
      have hsl : (List.replicate k (-1 : Int)).length ≤ 10000000 := by simp; omega
      have HSL := Lib.hid hsl
      clear hsl
      go_wp2_with (at_builtin; go_loud ((refine wpList_snocI EI_int rfl (.tmp 38) (.tmp 39) rfl hS.out.own rfl (-1) wr.heap.size rfl rfl HSL.out ?_); intro A2 c2 w2 ho2 hg2 hat2))
      refine ⟨⟨k + 1, by go_num, by omega, by omega, ?_⟩, by simp [intOf]; omega⟩
      have := hS.out.app ho2 hg2 hat2
      unfold Hid
      rw [List.replicate_succ']
      simpa using this
    · obtain rfl : k = n := by omega
      obtain ⟨g, c8, rfl, hc8, _, _, _, _⟩ := own_block hS.out.own.1 (by simp; omega)
      rw [List.length_replicate] at *
      have hl0 : List.replicate k (-1 : Int) = mateL k (cycM 1) := by
        rw [show cycM 1 = fun _ => none from funext cycM_one, mateL_none]
      rw [hl0] at hS
      clear hl0 hk hlt
      go_wp2_with fail
      go_loopw [10] (fun v10 wr => ∃ (m : Nat), v10 = .int .i64 m ∧ m % 2 = 1 ∧ m ≤ k ∧ Hid (StW w b7 (k : Int) es A c (.slice (some ⟨g, 0, none⟩) k c8) (mateL k (cycM m)) wr)) (fun v10 _ => k - (intOf v10).toNat)
      case atStart => exact ⟨1, rfl, rfl, by omega, hS⟩
      case round =>
        clear hS
        obtain ⟨m, rfl, hm, hmk, hS⟩ := hrel
        have i3 : IntKind.i64.wrap ((m : Int) + 1) = (m : Int) + 1 := by rw [IntKind.wrap_i64]; omega
        by_cases hlt : m + 1 < k
        · have i1 : (m : Int) + 1 < (k : Int) := by omega
          have i2 : (0 : Int) ≤ (m : Int) := by omega
          have i4 : (m : Int) < (k : Int) := by omega
          have i5 : (0 : Int) ≤ (m : Int) + 1 := by omega
          have i6 : ((m : Int) + 1).toNat = m + 1 := by omega
          obtain ⟨g', c', hg', _, _, _, hcell, hfroz⟩ := own_block hS.out.own.1 (by rw [mateL_length]; omega)
          rw [mateL_length] at hg'
          simp only [Value.slice.injEq, Option.some.injEq, Addr.mk.injEq, and_true, true_and] at hg'
          obtain ⟨rfl, rfl⟩ := hg'
          have x1 := hcell m _ (icells_get _ m _ (mateL_get (cycM m) (by omega)))
          have x2 := hcell (m + 1) _ (icells_get _ (m + 1) _ (mateL_get (cycM m) hlt))
          have z1 := hfroz m
          have z2 := hfroz (m + 1)
          have hS2 := (hS.out.store (mateL_length _ _) m (by omega) ((m : Int) + 1)).store (by rw [List.length_set, mateL_length]) (m + 1) hlt (m : Int)
          rw [mateL_set _ m (some (m + 1)) ((m : Int) + 1) (by simp [encO]), mateL_set _ (m + 1) (some m) (m : Int) rfl, cycM_step hm] at hS2
          have HS2 := Lib.hid hS2
          clear hS2 hcell hfroz
          go_wp2_with fail
          exact ⟨⟨m + 2, by go_num, by omega, by omega, HS2⟩, by simp [intOf]; omega⟩
        · have i1 : ¬ (m : Int) + 1 < (k : Int) := by omega
          obtain rfl : m = k := by omega
          have hl1 : mateL m (cycM m) = mateL (m + 0) (stemM m 0) := by
            unfold mateL
            exact List.map_congr_left fun v hv => by rw [stem_zero v (by simpa using hv)]
          rw [hl1] at hS
          have hst0 : StP m 0 es := ⟨hcy'.out.right, hcy'.out.len, fun v hv => hcy'.out.next hv, fun i hi => absurd hi (Nat.not_lt_zero _)⟩
          have HST0 := Lib.hid hst0
          clear hl1 hst0 hmk hlt hcy' i1 i3
          obtain ⟨v80, hv80⟩ : ∃ v80, v80 = Value.slice (some ⟨g, 0, none⟩) m c8 := ⟨_, rfl⟩
          rw [← hv80] at hS ⊢
          clear hv80
          go_wp2_with fail
          go_loopw [8, 11, 12] (fun v8 v11 v12 wr => ∃ (j N u : Nat) (es : List (Int × Int)) (A : Option Addr) (c : Nat), v11 = .int .i64 u ∧ v12 = .int .i64 j ∧ j ≤ s ∧ Hid (N = m + j ∧ u = stU m j) ∧ Hid (StP m j es) ∧ Hid (StW w b7 (N : Int) es A c v8 (mateL N (stemM m j)) wr)) (fun _ _ v12 _ => s - (intOf v12).toNat)
          case atStart => exact ⟨0, m, 0, es, A, c, rfl, rfl, Nat.zero_le _, ⟨rfl, rfl⟩, HST0, hS⟩
          case round =>
            clear hS HST0
            obtain ⟨j, N, u, es, A, c, rfl, rfl, hj, hNu, hP, hS⟩ := hrel
            have hN63 : N ≤ 59 := by have := hNu.out.1; omega
            have huN : u < N := by
              have h1 := hNu.out
              have : stU m j < m + j := by unfold stU; split <;> omega
              omega
            by_cases hlt : j < s
            · have i1 : (j : Int) < (s : Int) := by omega
              have c0 := hS.out.box.c0
              have c1 := hS.out.box.c1
              have f0 := hS.out.box.f0 0
              obtain ⟨N1, hN1, hN2⟩ : ∃ N1, N1 ≤ N + 1 ∧ N + 1 ≤ N1 := ⟨N + 1, by omega, by omega⟩
              have i2 : IntKind.i64.wrap ((N : Int) + 1) = (N1 : Int) := by rw [IntKind.wrap_i64]; omega
              have hS1 := hS.out.turn (N1 : Int)
              go_upto_region 17 with fail
              have HPU := pput_any (N1 : Int) (u : Int) (N : Int) es A c _ hS1.rd hS1.cap (by rw [hP.out.len]; omega)
              generalize wr.setCell ⟨b7, 0, none⟩ (.int .i64 (N1 : Int)) = w4 at hS1 HPU ⊢
              have d0 := hS1.box.c0
              have d1 := hS1.box.c1
              have i3 : IntKind.i64.wrap ((N1 : Int) - 1) = (N : Int) := by rw [IntKind.wrap_i64]; omega
              have herr : addErr (N1 : Int) es (u : Int) (N : Int) = 0 := by
                have h1 := hNu.out
                have := new_err0 (n := m + j) hP.out.right (by omega) (by rw [hP.out.len]; omega) (a := u) (by omega)
                rw [show N1 = m + j + 1 by omega, show N = m + j by omega]; exact this
              have HERR := Lib.hid herr
              clear hS c0 c1 f0 herr
              go_upto_region 18 with (go_at_call 47; (refine HPU.mono ?_; rintro e w5 ⟨n', A', l', c', err, rfl, hb5, hE⟩; have e0 := (hS1.box.go hb5).c0; have e1 := (hS1.box.go hb5).c1; have g0 := (hS1.box.go hb5).f0 0; have g1 := (hS1.box.go hb5).f0 1))
              have hE2 := hE.out.2 (hE.out.1.trans HERR.out)
              obtain ⟨rfl, hl', hc', how'⟩ := hE2
              have hz := addErr_zero HERR.out
              have hS2 := hS1.put hb5 (by rw [putE_length]; exact hl') hc' how' (N1 : Int)
              have hP2 : StP m (j + 1) (putE es (min (u : Int) (N : Int), max (u : Int) (N : Int))) := by
                have h1 := hNu.out
                have hr := hz.2.1
                rw [h1.1, h1.2] at hr ⊢
                rw [show N1 = m + j + 1 by omega] at hr
                exact hP.out.succ hr
              subst hl'
              rw [← putE_length es (min (u : Int) (N : Int), max (u : Int) (N : Int))] at hS2 ⊢
              generalize putE es (min (u : Int) (N : Int), max (u : Int) (N : Int)) = es1 at hS2 hP2 ⊢
              generalize (w5.setCell ⟨b7, 0, none⟩ (.int .i64 (N1 : Int))).setCell ⟨b7, 1, none⟩ (.slice A' es1.length c') = w6 at hS2 ⊢
              obtain ⟨A0, c0, hv8, hc0, _⟩ := hS2.own.slice
              subst hv8
              have HP2 := Lib.hid hP2
              have hsl : (mateL N (stemM m j)).length ≤ 10000000 := by rw [mateL_length]; omega
              have HSL := Lib.hid hsl
              clear hS1 hz how' hc' hE hb5 e0 e1 g0 g1 HPU hsl d0 d1 hP2 HERR hP w4
              go_upto_region 19 with (at_builtin; go_loud ((refine wpList_snocI EI_int rfl (.tmp 76) (.tmp 77) rfl hS2.own rfl (-1) w6.heap.size rfl rfl HSL.out ?_); intro A2 c2 w7 ho2 hg2 hat2))
              have hS3 := hS2.app ho2 hg2 hat2
              rw [mateL_new] at hS3
              have hN1e : N + 1 = N1 := by omega
              have hM1 : j % 2 = 1 → mateL (N + 1) (fun v => if v = N then none else stemM m j v) = mateL N1 (stemM m (j + 1)) := fun hj2 => by
                have h1 := hNu.out.1
                rw [← hN1e]
                refine mateL_congr fun v hv => ?_
                rw [h1] at hv ⊢
                exact (stem_odd (by omega) hj2 v hv).symm
              have hM0 : j % 2 = 0 → mateL (N + 1) (upd (upd (fun v => if v = N then none else stemM m j v) u (some N)) N (some u)) = mateL N1 (stemM m (j + 1)) := fun hj2 => by
                have h1 := hNu.out
                rw [← hN1e]
                refine mateL_congr fun v hv => ?_
                rw [h1.1] at hv ⊢
                rw [h1.2]
                exact (stem_even (by omega) hj2 v hv).symm
              have hNu2 : Hid (N1 = m + (j + 1) ∧ N = stU m (j + 1)) := by
                have h1 := hNu.out
                refine ⟨by omega, ?_⟩
                unfold stU; rw [if_neg (by omega)]; omega
              rw [mateL_length] at *
              have c0' := hS3.box.c0
              by_cases hj2 : j % 2 = 1
              · have i5 : ¬ (j : Int).tmod 2 = 0 := by rw [Int.tmod_eq_emod_of_nonneg (by omega)]; omega
                have i4 : ((j : Int).tmod 2 == 0) = false := beq_eq_false_iff_ne.2 i5
                rw [hM1 hj2] at hS3
                have HS3 := Lib.hid hS3
                clear hS3 hM1 hM0 hS2 ho2 hg2 hat2 HSL
                go_wp2_with fail
                exact ⟨⟨j + 1, N1, N, es1, A', c', by go_num, by go_num, by omega, hNu2, HP2, HS3⟩, by simp [intOf]; omega⟩
              · have i5 : (j : Int).tmod 2 = 0 := by rw [Int.tmod_eq_emod_of_nonneg (by omega)]; omega
                have i4 : ((j : Int).tmod 2 == 0) = true := beq_iff_eq.2 i5
                obtain ⟨g2, c9, hg2', _, _, _, hcell, hfroz⟩ := own_block hS3.own.1 (by rw [mateL_length]; omega)
                rw [mateL_length] at hg2'
                simp only [Value.slice.injEq] at hg2'
                obtain ⟨rfl, _, rfl⟩ := hg2'
                have x1 := hcell u _ (icells_get _ u _ (mateL_get _ (show u < N + 1 by omega)))
                have x2 := hcell N _ (icells_get _ N _ (mateL_get _ (show N < N + 1 by omega)))
                have z1 := hfroz u
                have z2 := hfroz N
                have hS4 := fun q => (((hS3.go (below_drewN0 (Below.refl _ w7) q)).store (mateL_length _ _) u (by omega) (N : Int)).store (by rw [List.length_set, mateL_length]) N (by omega) (u : Int))
                rw [mateL_set _ u (some N) (N : Int) rfl, mateL_set _ N (some u) (u : Int) rfl, hM0 (by omega)] at hS4
                have HS4 := Lib.hid hS4
                have k1 : (u : Int) < (N : Int) + 1 := by omega
                have k2 : (0 : Int) ≤ (u : Int) := by omega
                have k3 : (N : Int) < (N : Int) + 1 := by omega
                have k4 : (0 : Int) ≤ (N : Int) := by omega
                have k5 : u < N + 1 := by omega
                have k6 : u ≤ N := by omega
                have k7 : (u : Int) ≤ (N : Int) := by omega
                have k8 : N < N + 1 := by omega
                have k9 : (u : Int) < (N1 : Int) := by omega
                have k10 : (N : Int) < (N1 : Int) := by omega
                have hne := (hS3.vne g2 rfl).1
                have HC := Lib.hid (fun (W : World) (h : W.heap[b7]? = w7.heap[b7]?) => ((World.cell?_of_block (w := w7) (a := ⟨b7, 0, none⟩) h).trans c0' : W.cell? ⟨b7, 0, none⟩ = some (.int .i64 (N1 : Int))))
                clear hS4 hS3 hM1 hM0 hS2 ho2 hg2 hat2 HSL hcell hfroz
                go_upto_region 20 with fail
                go_region_held3 (fun W' => W'.cell? ⟨b7, 0, none⟩ = some (.int .i64 (N1 : Int))) (first | exact c0' | (refine HC.out _ ?_; exact Below.heap_setCell _ _ _ _ (fun e => hne e.symm)) | (refine HC.out _ ?_; exact (Below.heap_setCell _ _ _ _ (fun e => hne e.symm)).trans (Below.heap_setCell _ _ _ _ (fun e => hne e.symm))) | (simp [go_sem, *]; done)) (fail)
                all_goals
                  go_wp2_with fail
                  have h4 := HS4.out 0
                  rw [hN1e] at h4
                  exact ⟨⟨j + 1, N1, N, es1, A', c', rfl, by go_num, by omega, hNu2, HP2, h4.go ((Below.refl _ _).drew)⟩, by simp [intOf]; omega⟩
            · obtain rfl : j = s := by omega
              obtain ⟨g2, c9, rfl, _, _, _, hcell, hfroz⟩ := own_block hS.out.own.1 (by rw [mateL_length]; omega)
              rw [mateL_length] at *
              have x1 := hcell u _ (icells_get _ u _ (mateL_get (stemM m j) huN))
              have z1 := hfroz u
              have hup : upd (stemM m j) u none = stemM m j := by
                funext x
                unfold upd
                by_cases e : x = u
                · rw [if_pos e, e, hNu.out.2]; exact (stemM_last (by omega) hsev).symm
                · rw [if_neg e]
              have hSt := hS.out.store (mateL_length _ _) u huN (-1)
              rw [mateL_set _ u none (-1) rfl, hup] at hSt
              have HSt := Lib.hid hSt
              have i2 : (u : Int) < (N : Int) := by omega
              have i3 : (0 : Int) ≤ (u : Int) := by omega
              clear hSt hup hcell hfroz hlt
              go_upto_if 98 with fail
              go_cut [8] (fun v8 wc => v8 = Value.slice (some ⟨g2, 0, none⟩) N c9 ∧ Hid (StW w b7 (N : Int) es A c (.slice (some ⟨g2, 0, none⟩) N c9) (mateL N (stemM m j)) wc))
              case first =>
                by_cases hs0 : 0 < j
                · have i1 : (0 : Int) < (j : Int) := by omega
                  go_wp2_with fail
                  go_meet
                  exact ⟨rfl, HSt⟩
                · have i1 : ¬ (0 : Int) < (j : Int) := by omega
                  go_wp2_with fail
                  go_meet
                  exact ⟨rfl, hS⟩
              case rest =>
                clear hS HSt x1 z1 i2 i3
                obtain ⟨rfl, hS⟩ := hcut
                have c0 := hS.out.box.c0
                have c1 := hS.out.box.c1
                have f0 := hS.out.box.f0 0
                obtain ⟨N1, hN1, hN2⟩ : ∃ N1, N1 ≤ N + 1 ∧ N + 1 ≤ N1 := ⟨N + 1, by omega, by omega⟩
                have i2 : IntKind.i64.wrap ((N : Int) + 1) = (N1 : Int) := by rw [IntKind.wrap_i64]; omega
                have hS1 := hS.out.turn (N1 : Int)
                obtain ⟨r3, hr3, hr3'⟩ := umod a0 (m - 1) (by omega) (by omega)
                have q1 : IntKind.i64.wrap ((m : Int) - 1) = ((m - 1 : Nat) : Int) := by rw [IntKind.wrap_i64]; omega
                have q2 : IntKind.u64.wrap ((m - 1 : Nat) : Int) = ((m - 1 : Nat) : Int) := by rw [IntKind.wrap_u64]; omega
                have q3 : ¬ ((m - 1 : Nat) : Int) = 0 := by omega
                have q4 : (((m - 1 : Nat) : Int) == 0) = false := beq_eq_false_iff_ne.2 q3
                obtain ⟨m1, hm1⟩ : ∃ m1, m1 = m - 1 := ⟨_, rfl⟩
                rw [← hm1] at q1 q2 q3 q4 hr3 hr3'
                have q8 : ¬ m1 = 0 := by omega
                have q5 : IntKind.i64.wrap (r3 : Int) = (r3 : Int) := by rw [IntKind.wrap_i64]; omega
                obtain ⟨o, ho1, ho2⟩ : ∃ o, o ≤ 1 + r3 ∧ 1 + r3 ≤ o := ⟨1 + r3, by omega, by omega⟩
                have q6 : IntKind.i64.wrap (1 + (r3 : Int)) = (o : Int) := by rw [IntKind.wrap_i64]; omega
                have hom : o < m := by omega
                have HN1 := Lib.hid (And.intro hN1 hN2)
                clear hm1 ho1 hr3'
                go_upto_region 26 with fail
                have HPU := pput_any (N1 : Int) (o : Int) (N : Int) es A c _ hS1.rd hS1.cap (by rw [hP.out.len]; omega)
                generalize wc.setCell ⟨b7, 0, none⟩ (.int .i64 (N1 : Int)) = w4 at hS1 HPU ⊢
                have d0 := hS1.box.c0
                have d1 := hS1.box.c1
                have i3 : IntKind.i64.wrap ((N1 : Int) - 1) = (N : Int) := by rw [IntKind.wrap_i64]; omega
                have herr : addErr (N1 : Int) es (o : Int) (N : Int) = 0 := by
                  have h1 := hNu.out
                  have := new_err0 (n := m + j) hP.out.right (by omega) (by rw [hP.out.len]; omega) (a := o) (by omega)
                  rw [show N1 = m + j + 1 by omega, show N = m + j by omega]; exact this
                have HERR := Lib.hid herr
                clear hS c0 c1 f0 herr
                go_upto_region 27 with (go_at_call 47; (refine HPU.mono ?_; rintro e w5 ⟨n', A', l', c', err, rfl, hb5, hE⟩; have e0 := (hS1.box.go hb5).c0; have e1 := (hS1.box.go hb5).c1; have g0 := (hS1.box.go hb5).f0 0; have g1 := (hS1.box.go hb5).f0 1))
                have hE2 := hE.out.2 (hE.out.1.trans HERR.out)
                obtain ⟨rfl, hl', hc', how'⟩ := hE2
                have hz := addErr_zero HERR.out
                have hS2 := hS1.put hb5 (by rw [putE_length]; exact hl') hc' how' (N1 : Int)
                have hR1 : RightP (N1 : Int) (putE es (min (o : Int) (N : Int), max (o : Int) (N : Int))) := hz.2.1
                have hadj := fun x y => put_adj_iff (es := es) (a := o) (b := N) x y
                subst hl'
                rw [← putE_length es (min (o : Int) (N : Int), max (o : Int) (N : Int))] at hS2 ⊢
                generalize putE es (min (o : Int) (N : Int), max (o : Int) (N : Int)) = es1 at hS2 hR1 hadj ⊢
                generalize (w5.setCell ⟨b7, 0, none⟩ (.int .i64 (N1 : Int))).setCell ⟨b7, 1, none⟩ (.slice A' es1.length c') = w6 at hS2 ⊢
                have hNe := hNu.out.1
                have hcyc : ∀ v, v < m → adjE es1 v ((v + 1) % m) := fun v hv => (hadj _ _).2 (.inl (hP.out.cyc v hv))
                have hstm : ∀ i, i < j → adjE es1 (stU m i) (m + i) := fun i hi => (hadj _ _).2 (.inl (hP.out.stem i hi))
                have hsy : ∀ {u v}, adjE es1 u v → adjE es1 v u := fun h => (right_gr (n := N1) hR1).symm h
                have hMt : IsMat N1 (adjE es1) (stemM m j) := stem_mat hodd hn3 hsev (by have := HN1.out; omega) hsy hcyc hstm
                have hAug : ∃ p, AugW (adjE es1) (stemM m j) p := stem_aug hodd hn3 hsev hsy hcyc hstm (o := o) (by omega) hom (by rw [← hNe]; exact (hadj _ _).2 (.inr (.inl ⟨rfl, rfl⟩)))
                have hln : mateL N (stemM m j) ++ [-1] = mateL N1 (stemM m j) := by
                  rw [mateL_new, show N + 1 = N1 by have := HN1.out; omega]
                  refine mateL_congr fun v hv => ?_
                  by_cases e : v = N
                  · rw [if_pos e, e, hNe]; exact (stemM_end (by omega)).symm
                  · rw [if_neg e]
                have HMt := Lib.hid hMt
                have HAug := Lib.hid hAug
                have HR1 := Lib.hid hR1
                have HLN := Lib.hid hln
                have hsl : (mateL N (stemM m j)).length ≤ 10000000 := by rw [mateL_length]; omega
                have HSL := Lib.hid hsl
                clear hS1 hz how' hc' hE hb5 e0 e1 g0 g1 HPU hsl d0 d1 HERR hP hadj hcyc hstm hsy hMt hAug hR1 hln w4
                clear hNe
                go_upto_region 28 with (at_builtin; go_loud ((refine wpList_snocI EI_int rfl (.tmp 124) (.tmp 125) rfl hS2.own rfl (-1) w6.heap.size rfl rfl HSL.out ?_); intro A2 c2 w7 ho2 hg2 hat2))
                have hS3 := hS2.app ho2 hg2 hat2
                rw [HLN.out] at hS3
                obtain ⟨hr8, hc8, hm8⟩ := hS3.own.reads
                rw [mateL_length] at hc8
                have hG : GMW w N1 es1 A' c' b7 A2 (stemM m j) w7 := ⟨hS3.box, hS3.rd, hr8⟩
                have hcap := hS3.cap
                have hw : N + 1 = N1 := by have := HN1.out; omega
                rw [mateL_length, hw]
                have HG := Lib.hid hG
                have HB7 := Lib.hid hG.box.below
                clear hS3 hS2 hr8 hm8 ho2 hg2 hat2 HSL HLN HN1 hNu i2 i3 q1 q2 q3 q4 q5 q6 q8 hr3 hom hG
                have hN1b : N1 ≤ 60 := by omega
                clear hN1 hN2 ho2 f1 f2 f4 e1 e2 ha1 ha2 hw hN63 huN
                have HMR := fun (W : World) (h : GMW w N1 es1 A' c' b7 A2 (stemM m j) W) => rmright_mat A' A2 c' c2 W h.rd hcap HR1.out HMt.out h.rm
                have HPA := fun (W : World) (h : GMW w N1 es1 A' c' b7 A2 (stemM m j) W) => (show Calls Try.prog 39 #[.agg #[.int .i64 (N1 : Int), .slice A' es1.length c'], .slice A2 N1 c2] W (fun e w' => ∃ p g c, e = .returned (.tuple #[.slice (some ⟨g, 0, none⟩) p.length c, .slice none 0 0, .int .i64 0]) ∧ AugW (adjE es1) (stemM m j) p ∧ (∀ x ∈ p, x < N1) ∧ p.length ≤ c ∧ Reads w' (some ⟨g, 0, none⟩) (icells (natI p)) ∧ Below W.heap.size W w') from (path_yes N1 es1 A' A2 c' c2 (stemM m j) W h.rd hcap ((right_iff _ _).2 HR1.out) h.rm HMt.out hc8).mono (by
                  rintro e w' (⟨p, g, cg, rfl, haug, hpl, how, hb⟩ | ⟨B, S, D, rfl, hFI, hCl, _, _, _⟩)
                  · have h1 := own_reads1 how
                    rw [natI_len] at h1 ⊢
                    exact ⟨p, g, cg, rfl, haug, hpl, h1.2.1, h1.1, hb⟩
                  · obtain ⟨p, hp⟩ := HAug.out
                    exact absurd hp (hFI.closed_none (right_gr HR1.out) HMt.out hCl p)))
                go_upto_region 30 with (first
                  | (go_at_call 33; (refine (awake11 w7).mono ?_; rintro e w8 ⟨rfl, hb8⟩; have hG8 := HG.out.go hb8; have y0 := hG8.box.c0; have y1 := hG8.box.c1))
                  | (go_at_call 34; (refine (HMR w8 hG8).mono ?_; rintro e w9 ⟨rfl, hb9⟩; have hG9 := hG8.go hb9; have x0 := hG9.box.c0; have x1 := hG9.box.c1)))
                clear y0 y1 hG8 hb8 hb9 HMR
                go_upto_region 31 with (go_at_call 39; (refine (HPA w9 hG9).mono ?_; rintro e w10 ⟨p, g, cg, rfl, haug, hpl, hpc, hrp, hb10⟩))
                have hG10 := hG9.go hb10
                have hev := AugW.evenLen HMt.out haug
                have hpn := nodup_lt_len hev.2 hpl
                have ht := haug.turn (right_gr HR1.out) HMt.out
                have HFL := flip_yes HR1.out HMt.out haug hpl A' A2 (some ⟨g, 0, none⟩) c' c2 cg w10 hG10.rd hcap hG10.rm hrp hpc (by omega)
                have HFR := fun (W : World) (h : Below w10.heap.size w10 W) => rfree_any (stemM m j) A2 c2 W (hG10.rm.below h) (by omega)
                have HT := Lib.hid ht.2
                have HB10 := Lib.hid hG10.box.below
                have y0 := hG10.box.c0
                have y1 := hG10.box.c1
                clear hG9 x0 x1 HPA haug hpl hrp hb10 hev hG10 ht
                go_upto_region 32 with (go_at_call 48; (refine HFL.mono ?_; rintro e w11 ⟨g3, c3, rfl, hc3, ho3⟩))
                have HF2 := fun (W : World) (h : Below w11.heap.size w11 W) => rfree_any (turnF p (stemM m j)) (some ⟨g3, 0, none⟩) c3 W ((own_reads1 ho3.1).1.below h) (by omega)
                have HB11 := Lib.hid ho3.2
                have hl1 := natI_len (freeL N1 (turnF p (stemM m j)))
                have hl2 := natI_len (freeL N1 (stemM m j))
                have hfl := freeL_le N1 (stemM m j)
                have HTo := HT.out
                obtain ⟨x1, hx1⟩ : ∃ x1, x1 = (freeL N1 (turnF p (stemM m j))).length := ⟨_, rfl⟩
                obtain ⟨x2, hx2⟩ : ∃ x2, x2 = (freeL N1 (stemM m j)).length := ⟨_, rfl⟩
                rw [← hx1, ← hx2] at HTo
                rw [← hx1] at hl1
                rw [← hx2] at hl2 hfl
                have q1 : IntKind.i64.wrap ((x2 : Int) - 2) = (x1 : Int) := by rw [IntKind.wrap_i64]; omega
                have q2 : ((x1 : Int) == (x1 : Int)) = true := by simp
                clear HTo hfl hx1 hx2 HFL HT y0 y1
                go_wp2_with (first
                  | (go_at_call 49; (with_reducible refine (HF2 w11 (Below.refl _ _)).mono ?_); rintro e w12 ⟨v12, rfl, ho12⟩; obtain ⟨A12, c12, rfl, _, _⟩ := ho12.slice; rw [hl1])
                  | (go_at_call 49; refine (HFR w12 (below_on HB11.out ho12.2)).mono ?_; rintro e w13 ⟨v13, rfl, ho13⟩; obtain ⟨A13, c13, rfl, _, _⟩ := ho13.slice; rw [hl2]))
                go_ret
                exact ⟨rfl, HB10.out.trans ((below_on (below_on HB11.out ho12.2) ho13.2).mono HB10.out.size)⟩
end Go.Proofs.Ytgddfmfiiodgbaa
