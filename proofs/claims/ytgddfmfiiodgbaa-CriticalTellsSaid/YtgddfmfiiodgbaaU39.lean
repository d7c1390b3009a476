/- Walk of play.Cycle: a cycle's edges, and no others. -/
import Derived.Test.YtgddfmfiiodgbaaU32
import Derived.Test.YtgddfmfiiodgbaaU31
import Derived.Test.YtgddfmfiiodgbaaU36
import Derived.Test.YtgddfmfiiodgbaaU38
import Derived.Test.YtgddfmfiiodgbaaU17
namespace Go.Proofs.Ytgddfmfiiodgbaa
open Go Go.RowKit
set_option maxRecDepth 100000
set_option linter.unusedVariables false
set_option linter.unusedSimpArgs false

/-- So many edges of a cycle. -/
structure CycP (n : Nat) (es : List (Int × Int)) (k : Nat) : Prop where
  right : RightP n es
  len : es.length = k
  adj : ∀ u v, adjE es u v ↔ ∃ i, i < k ∧ ((u = i ∧ v = (i + 1) % n) ∨ (v = i ∧ u = (i + 1) % n))

theorem put_adj_iff {es : List (Int × Int)} {a b : Nat} (u v : Nat) : adjE (putE es (min (a : Int) (b : Int), max (a : Int) (b : Int))) u v ↔ adjE es u v ∨ (u = a ∧ v = b) ∨ (u = b ∧ v = a) := by
  have hmm : (min (a : Int) (b : Int) = (a : Int) ∧ max (a : Int) (b : Int) = (b : Int)) ∨ (min (a : Int) (b : Int) = (b : Int) ∧ max (a : Int) (b : Int) = (a : Int)) := by omega
  unfold adjE
  rw [mem_putE, mem_putE, Prod.mk.injEq, Prod.mk.injEq]
  constructor
  · rintro ((⟨h1, h2⟩ | h) | (⟨h1, h2⟩ | h))
    · rcases hmm with ⟨e1, e2⟩ | ⟨e1, e2⟩
      · exact .inr (.inr ⟨by omega, by omega⟩)
      · exact .inr (.inl ⟨by omega, by omega⟩)
    · exact .inl (.inl h)
    · rcases hmm with ⟨e1, e2⟩ | ⟨e1, e2⟩
      · exact .inr (.inl ⟨by omega, by omega⟩)
      · exact .inr (.inr ⟨by omega, by omega⟩)
    · exact .inl (.inr h)
  · rintro ((h | h) | ⟨rfl, rfl⟩ | ⟨rfl, rfl⟩)
    · exact .inl (.inr h)
    · exact .inr (.inr h)
    · rcases hmm with ⟨e1, e2⟩ | ⟨e1, e2⟩
      · exact .inr (.inl ⟨e1.symm, e2.symm⟩)
      · exact .inl (.inl ⟨e1.symm, e2.symm⟩)
    · rcases hmm with ⟨e1, e2⟩ | ⟨e1, e2⟩
      · exact .inl (.inl ⟨e1.symm, e2.symm⟩)
      · exact .inr (.inl ⟨e1.symm, e2.symm⟩)

theorem mod_next {n i : Nat} (hi : i < n) : (i + 1) % n = if i + 1 < n then i + 1 else 0 := by
  split
  · exact Nat.mod_eq_of_lt (by omega)
  · rw [show i + 1 = n by omega, Nat.mod_self]
theorem CycP.zero (n : Nat) (hn : n ≤ 4096) : CycP n [] 0 := ⟨⟨by omega, by omega, by simp, by simp, by simp⟩, rfl, fun u v => by simp [adjE]⟩
theorem CycP.not {n k : Nat} {es : List (Int × Int)} (h : CycP n es k) (hn : 3 ≤ n) (hk : k < n) : ¬ adjE es k ((k + 1) % n) := by
  rw [h.adj]
  rintro ⟨i, hi, ⟨h1, h2⟩ | ⟨h1, h2⟩⟩
  · omega
  · rw [mod_next hk] at h1
    rw [mod_next (show i < n by omega)] at h2
    split at h1 <;> split at h2 <;> omega
theorem CycP.err {n k : Nat} {es : List (Int × Int)} (h : CycP n es k) (hn : 3 ≤ n) (hn2 : n ≤ 4096) (hk : k < n) : addErr n es (k : Int) (((k + 1) % n : Nat) : Int) = 0 := by
  have hmod : (k + 1) % n < n := Nat.mod_lt _ (by omega)
  have hne : k ≠ (k + 1) % n := fun e => by rw [mod_next hk] at e; split at e <;> omega
  exact Classical.byContradiction fun he => h.not hn hk (add_has h.right hk hmod hne (by rw [h.len]; omega) he)
theorem CycP.succ {n k : Nat} {es : List (Int × Int)} (h : CycP n es k) (hr : RightP n (putE es (min (k : Int) (((k + 1) % n : Nat) : Int), max (k : Int) (((k + 1) % n : Nat) : Int)))) : CycP n (putE es (min (k : Int) (((k + 1) % n : Nat) : Int), max (k : Int) (((k + 1) % n : Nat) : Int))) (k + 1) := by
  refine ⟨hr, by rw [putE_length, h.len], fun u v => ?_⟩
  rw [put_adj_iff, h.adj]
  constructor
  · rintro (⟨i, hi, hh⟩ | ⟨h1, h2⟩ | ⟨h1, h2⟩)
    · exact ⟨i, by omega, hh⟩
    · exact ⟨k, by omega, .inl ⟨h1, h2⟩⟩
    · exact ⟨k, by omega, .inr ⟨h2, h1⟩⟩
  · rintro ⟨i, hi, hh⟩
    by_cases e : i = k
    · subst e
      rcases hh with hh | ⟨h1, h2⟩
      · exact .inr (.inl hh)
      · exact .inr (.inr ⟨h2, h1⟩)
    · exact .inl ⟨i, by omega, hh⟩
theorem CycP.next {n : Nat} {es : List (Int × Int)} (h : CycP n es n) {v : Nat} (hv : v < n) : adjE es v ((v + 1) % n) := (h.adj _ _).2 ⟨v, hv, .inl ⟨rfl, rfl⟩⟩

def CyclePost (n : Nat) (w : World) (e : Ending) (w' : World) : Prop :=
  ∃ (es : List (Int × Int)) (A : Option Addr) (c : Nat), e = .returned (.agg #[.int .i64 (n : Int), .slice A es.length c]) ∧ CycP n es n ∧ es.length ≤ c ∧ w'.ownsRow w.heap.size 49 2 (.slice A es.length c) es.length (pcells es) ∧ Below w.heap.size w w'

set_option maxHeartbeats 4000000 in
theorem cycle_any (n : Nat) (w : World) (hn3 : 3 ≤ n) (hn : n ≤ 4096) : Calls Try.prog 46 #[.int .i64 (n : Int)] w (CyclePost n w) := by
  go_enter Try.func46, Try.ntmps46
  go_upto_region 3 with fail
  obtain ⟨W0, hW0⟩ : ∃ W0, W0 = (w.alloc (Obj.cells #[Value.int IntKind.i64 0, Value.slice none 0 0] 25)).alloc (Obj.cells #[Value.int IntKind.i64 (n : Int), Value.slice none 0 0] 25) := ⟨_, rfl⟩
  rw [← hW0]
  have hs0 : W0.heap.size = w.heap.size + 2 := by rw [hW0]; simp
  have hX8 : Box2 w (w.heap.size + 1) (.int .i64 (n : Int)) (.slice none 0 0) 25 W0 := by
    rw [hW0]
    have := Box2.new (w := w) (wc := w.alloc (Obj.cells #[Value.int IntKind.i64 0, Value.slice none 0 0] 25)) ((Below.refl _ _).alloc (Nat.le_refl _) _) (.int .i64 (n : Int)) (.slice none 0 0) 25
    rw [World.size_alloc] at this
    exact this
  have hX6 : Box2 w w.heap.size (.int .i64 0) (.slice none 0 0) 25 W0 := by
    rw [hW0]
    exact (Box2.new (Below.refl _ _) _ _ _).old _
  clear hW0
  have HX8 := Lib.hid hX8
  have HX6 := Lib.hid hX6
  have HS0 := Lib.hid (show w.heap.size + 2 ≤ W0.heap.size by omega)
  clear hX8 hX6 hs0
  go_loopw [4] (fun i wq => ∃ (j : Nat) (es : List (Int × Int)) (A : Option Addr) (c : Nat), i = .int .i64 j ∧ j ≤ n ∧ Hid (CycP n es j) ∧ es.length ≤ c ∧
    Hid (Box2 w w.heap.size (.int .i64 0) (.slice none 0 0) 25 wq) ∧ Hid (Box2 w (w.heap.size + 1) (.int .i64 (n : Int)) (.slice A es.length c) 25 wq) ∧
    Hid (wq.ownsRow (w.heap.size + 2) 49 2 (.slice A es.length c) es.length (pcells es)) ∧ Hid (w.heap.size + 2 ≤ wq.heap.size)) (fun i _ => n + 1 - (intOf i).toNat)
  case atStart => exact ⟨0, [], none, 0, rfl, Nat.zero_le _, CycP.zero n hn, by simp, HX6, HX8, own_nil0 _ _ _ _, HS0⟩
  case round =>
    clear HX6 HX8 HS0
    obtain ⟨j, es, A, c, rfl, hj, hes, hc, hX6, hX8, how, hsz2⟩ := hrel
    have c0 := hX8.out.c0
    have c1' := hX8.out.c1
    by_cases hlt : j < n
    · have k1 : (j : Int) < (n : Int) := by omega
      have k2 : IntKind.i64.wrap ((j : Int) + 1) = ((j : Int) + 1) := by rw [IntKind.wrap_i64]; omega
      have k3 : ((j : Int) + 1).tmod (n : Int) = (((j + 1) % n : Nat) : Int) := by
        rw [Int.tmod_eq_emod_of_nonneg (by omega)]
        push_cast
        rfl
      have k4 : ((n : Int) == 0) = false := by simp; omega
      have k5 : ¬ (n : Int) = 0 := by omega
      have k7 : ¬ n = 0 := by omega
      have k6 : IntKind.i64.wrap (((j + 1) % n : Nat) : Int) = (((j + 1) % n : Nat) : Int) := by
        have := Nat.mod_lt (j + 1) (show 0 < n by omega)
        rw [IntKind.wrap_i64]; omega
      have hze := hes.out.err hn3 hn hlt
      have HZE := Lib.hid hze
      obtain ⟨m, hm⟩ : ∃ m, m = (j + 1) % n := ⟨_, rfl⟩
      rw [← hm] at k3 k6
      have HM := Lib.hid hm
      have HLT := Lib.hid hlt
      clear hze hm
      go_upto_region 5 with fail
      go_cut [5, 6] (fun a b wc => ∃ (b12 : Nat) (n' : Int) (A' : Option Addr) (l' c' : Nat) (err : Int), a = .pointer (some ⟨b12, 0, none⟩) ∧ b = .int .i64 err ∧ Hid (wc.heap[b12]? = some (.cells #[.int .i64 n', .slice A' l' c'] 25 (0, 0))) ∧ Hid (Below wr.heap.size wr wc) ∧ Hid (wr.heap.size ≤ b12) ∧
        Hid (err = addErr n es (j : Int) (m : Int)) ∧ Hid (err = 0 → n' = n ∧ l' = es.length + 1 ∧ l' ≤ c' ∧ wc.ownsRow wr.heap.size 49 2 (.slice A' l' c') l' (pcells (putE es (min (j : Int) (m : Int), max (j : Int) (m : Int))))))
      case first =>
        have HS : Hid (∀ w', Below wr.heap.size wr w' → w'.cell? ⟨w.heap.size + 1, 0, none⟩ = some (.int .i64 (n : Int)) ∧ w'.cell? ⟨w.heap.size + 1, 1, none⟩ = some (.slice A es.length c)) :=
          fun w' h' => ⟨(hX8.out.go h').c0, (hX8.out.go h').c1⟩
        have hrE : Hid (∀ w', Below wr.heap.size wr w' → Reads w' A (pcells es)) := fun w' h' => (own_reads1 how.out).1.below h'
        have hel : es.length ≤ 4611686018427387903 := by rw [hes.out.len]; omega
        have HAD := fun (W : World) (h : Reads W A (pcells es)) => addAny (n : Int) (j : Int) (m : Int) es A c W h hc hel
        clear HZE
        go_region_held3 (fun w' => w'.cell? ⟨w.heap.size + 1, 0, none⟩ = some (.int .i64 (n : Int)) ∧ w'.cell? ⟨w.heap.size + 1, 1, none⟩ = some (.slice A es.length c))
          (first | exact HS.out _ hb1 | (refine HS.out _ ?_; (repeat (first | with_reducible exact Below.refl _ _ | with_reducible assumption | with_reducible refine below_drewN0 ?_ _ | with_reducible refine Below.drew ?_ | with_reducible refine Below.alloc ?_ ?_ _ | with_reducible refine Below.setCell ?_ ?_ _ | go_size | exact Below.size (by assumption))); done))
          (first | (go_at_call 59; refine (HAD _ (hrE.out _ ?_)).mono ?_; (repeat (first | with_reducible exact Below.refl _ _ | with_reducible assumption | with_reducible refine below_drewN0 ?_ _ | with_reducible refine Below.drew ?_ | with_reducible refine Below.alloc ?_ ?_ _ | with_reducible refine Below.setCell ?_ ?_ _ | go_size | exact Below.size (by assumption))); rintro e w1 ⟨n', A', l', c'', err, rfl, hb1', hE1⟩; have hb1 : Below wr.heap.size wr w1 := Below.trans (by (repeat (first | with_reducible exact Below.refl _ _ | with_reducible assumption | with_reducible refine below_drewN0 ?_ _ | with_reducible refine Below.drew ?_ | with_reducible refine Below.alloc ?_ ?_ _ | with_reducible refine Below.setCell ?_ ?_ _ | go_size | exact Below.size (by assumption)))) (hb1'.mono (by go_size)); first | (have hz := blk2 ((hb1'.block wr.heap.size (by simp)).trans (heap_alloc_new _ _)); obtain ⟨y0, y1, y2, y3, y4⟩ := hz) | skip))
        · go_wp2_with fail
          go_meet
          exact ⟨w1.heap.size, n', A', l', c'', err, rfl, rfl, heap_alloc_new _ _, hb1.alloc hb1.size _, hb1.size, hE1.out.1, fun h => by
            obtain ⟨h1, h2, h3, h4⟩ := hE1.out.2 h
            exact ⟨h1, h2, h3, own_cast (own_below0 h4 ((Below.refl _ _).alloc (Nat.le_refl _) _)) (Nat.le_refl _) rfl rfl⟩⟩
        · have hz := (hb1'.block wr.heap.size (by simp)).trans (heap_alloc_new _ _)
          have HZ := Lib.hid hz
          clear hz
          go_wp2_with fail
          go_meet
          exact ⟨wr.heap.size, n', A', l', c'', err, rfl, rfl, heap_set2 HZ.out _ _, (hb1.setCell (p := ⟨_, 0, none⟩) (Nat.le_refl _) _).setCell (p := ⟨_, 1, none⟩) (Nat.le_refl _) _, Nat.le_refl _, hE1.out.1, fun h => by
            obtain ⟨h1, h2, h3, h4⟩ := hE1.out.2 h
            exact ⟨h1, h2, h3, own_cast (own_set (a := ⟨wr.heap.size, 1, none⟩) (own_set (a := ⟨wr.heap.size, 0, none⟩) h4 (by simp) _) (by simp) _) (by simp) rfl rfl⟩⟩
      case rest =>
        obtain ⟨b12, n', A', l', c', err, rfl, rfl, h12, hbc, hb12, herr, hgo⟩ := hcut
        have hX6' := hX6.out.go hbc.out
        have hX8' := hX8.out.go hbc.out
        clear c0 c1' hX6 hX8
        have d0 := blkc0 h12.out 0 _ rfl
        have d1 := blkc0 h12.out 1 _ rfl
        have g0 := hX8'.c0
        have g1 := hX8'.c1
        have gf0 := hX8'.f0 0
        have gf1 := hX8'.f0 1
        have hne : w.heap.size + 1 ≠ b12 := by have := hb12.out; have := hsz2.out; omega
        have HSZc := Lib.hid (show w.heap.size + 2 ≤ wc.heap.size by have := hbc.out.size; have := hsz2.out; omega)
        have HX6 := Lib.hid hX6'
        have HX8 := Lib.hid hX8'
        have he : err = 0 := by rw [herr.out, HM.out]; exact HZE.out
        clear hX6' hX8' how hne
        subst he
        obtain ⟨h1, h2, h3, h4⟩ := hgo.out rfl
        subst h1 h2
        have hz := addErr_zero herr.out.symm
        have hcp := hes.out.succ (by have := hz.2.1; rw [HM.out] at this; exact this)
        rw [← HM.out] at hcp
        have HCP := Lib.hid hcp
        have H4 := Lib.hid h4
        clear hz h4 hcp
        go_wp2_with fail
        go_roundw
        case rel =>
          have hl := putE_length es (min (j : Int) (m : Int), max (j : Int) (m : Int))
          refine ⟨j + 1, putE es (min (j : Int) (m : Int), max (j : Int) (m : Int)), A', c', by go_num, by omega, HCP, by rw [hl]; exact h3, ?_, ?_, ?_, ?_⟩
          · exact HX6.out.far (by omega) (Nat.le_succ _) _ _
          · rw [hl]; exact HX8.out.set (Nat.le_succ _) _ _
          · rw [hl]
            have := hsz2.out
            exact own_cast (own_set (a := ⟨w.heap.size + 1, 1, none⟩) (own_set (a := ⟨w.heap.size + 1, 0, none⟩) H4.out (by show w.heap.size + 1 < _; omega) _) (by show w.heap.size + 1 < _; omega) _) hsz2.out rfl rfl
          · show _ ≤ _
            simp [World.setCell]
            exact HSZc.out
        case measure => simp [intOf]; omega
    · obtain rfl : j = n := by omega
      have z0 := hX6.out.f0 0
      have z1 := hX6.out.f0 1
      have x0 := hX6.out.c0
      have x1 := hX6.out.c1
      go_wp2_with fail
      have hF := hX6.out.set (Nat.le_refl _) (.int .i64 (j : Int)) (.slice A es.length c)
      obtain ⟨wf, hwf⟩ : ∃ wf, wf = ((wr.setCell { block := w.heap.size, off := 0 } (Value.int IntKind.i64 (j : Int))).setCell { block := w.heap.size, off := 1 } (Value.slice A es.length c)) := ⟨_, rfl⟩
      rw [← hwf] at hF ⊢
      have k0 := hF.c0
      have k1 := hF.c1
      refine bodyPost_ret (v := .agg #[.int .i64 (j : Int), .slice A es.length c]) (by simp [results, Try.results46, go_sem, k0, k1]) rfl ?_
      refine ⟨es, A, c, rfl, hes.out, hc, ?_, hF.below⟩
      rw [hwf]
      exact own_cast (own_set (a := ⟨w.heap.size, 1, none⟩) (own_set (a := ⟨w.heap.size, 0, none⟩) how.out (by show w.heap.size < _; omega) _) (by show w.heap.size < _; omega) _) (by omega) rfl rfl
end Go.Proofs.Ytgddfmfiiodgbaa

/- Walk of the reference's Free; of play.Put. -/
namespace Go.Proofs.Ytgddfmfiiodgbaa
open Go Go.RowKit
set_option maxRecDepth 100000
set_option linter.unusedVariables false
set_option linter.unusedSimpArgs false

set_option maxHeartbeats 2000000 in
theorem rfree_any {n : Nat} (M : Nat → Option Nat) (mA : Option Addr) (mc : Nat) (w : World) (hrm : Reads w mA (icells (mateL n M))) (hn : n ≤ 1000000) :
    Calls Try.prog 49 #[.slice mA n mc] w fun e w' => ∃ v, e = .returned v ∧ OwnI w w' v (natI (freeL n M)) := by
  have HRM := Lib.hid hrm
  clear hrm
  go_enter Try.func49, Try.ntmps49
  go_wp2_with fail
  go_loopw [3, 4] (fun r i wr => ∃ (v : Nat), i = .int .i64 v ∧ v ≤ n ∧ Hid (OwnI w wr r (natI (freeL v M)))) (fun _ i _ => n - (intOf i).toNat)
  case atStart => exact ⟨0, rfl, Nat.zero_le _, OwnI.nil w⟩
  case round =>
    obtain ⟨v, rfl, hv, ho⟩ := hrel
    by_cases hlt : v < n
    · have i1 : (v : Int) < (n : Int) := by omega
      have i2 : (0 : Int) ≤ (v : Int) := by omega
      obtain ⟨mb, mo, hmA, _, cx⟩ := (HRM.out.below ho.out.2).int v _ (mateL_get M hlt)
      obtain ⟨A0, c0, rfl, hc0, _⟩ := ho.out.slice
      have hle := freeL_le v M
      have hsl : (natI (freeL v M)).length ≤ 10000000 := by rw [natI_len]; omega
      have HSL := Lib.hid hsl
      rw [hmA]
      have HMA := Lib.hid hmA
      clear hmA hsl
      cases hm : M v with
      | some x =>
        rw [hm] at cx
        have cx' : wr.cell? ⟨mb, mo + v, none⟩ = some (.int .i64 (x : Int)) := cx
        have e1 : ((x : Int) == -1) = false := by simp
        have hs : freeL (v + 1) M = freeL v M := by rw [freeL_succ, if_neg (by rw [hm]; simp)]
        have HS := Lib.hid hs
        clear cx hm hs
        go_wp2_with fail
        exact ⟨⟨v + 1, by go_num, by omega, by rw [HS.out]; exact ho⟩, by simp [intOf]; omega⟩
      | none =>
        rw [hm] at cx
        have cx' : wr.cell? ⟨mb, mo + v, none⟩ = some (.int .i64 (-1)) := cx
        have hs : freeL (v + 1) M = freeL v M ++ [v] := by rw [freeL_succ, if_pos hm]
        have HS := Lib.hid hs
        clear cx hm hs
        go_wp2_with (at_builtin; go_loud ((refine wpList_snocI EI_int rfl (.tmp 16) (.tmp 18) rfl ho.out rfl (v : Int) wr.heap.size rfl rfl HSL.out ?_); intro A2 c2 w2 ho2 _ _))
        refine ⟨⟨v + 1, by go_num, by omega, ?_⟩, by simp [intOf]; omega⟩
        rw [HS.out]
        simpa [natI] using Lib.hid ho2
    · obtain rfl : v = n := by omega
      go_wp2_with fail
      go_ret
      exact ⟨_, rfl, ho.out⟩

set_option maxHeartbeats 2000000 in
theorem pput_any (n a b : Int) (es : List (Int × Int)) (A : Option Addr) (c : Nat) (w : World) (hr : Reads w A (pcells es)) (hc : es.length ≤ c) (hm : es.length ≤ 4611686018427387903) :
    Calls Try.prog 47 #[.agg #[.int .i64 n, .slice A es.length c], .agg #[.int .i64 a, .int .i64 b]] w fun e w' => ∃ (n' : Int) (A' : Option Addr) (l' c' : Nat) (err : Int),
      e = .returned (.tuple #[.agg #[.int .i64 n', .slice A' l' c'], .int .i64 err]) ∧ Below w.heap.size w w' ∧
      Hid (err = addErr n es a b ∧ (err = 0 → n' = n ∧ l' = es.length + 1 ∧ l' ≤ c' ∧ w'.ownsRow w.heap.size 49 2 (.slice A' l' c') l' (pcells (putE es (min a b, max a b))))) := by
  have HAD := fun (W : World) (h : Below w.heap.size w W) => addAny n a b es A c W (hr.below h) hc hm
  clear hr
  go_enter Try.func47, Try.ntmps47
  go_upto_region 1 with fail
  obtain ⟨W0, hW0⟩ : ∃ W0, W0 = ((w.alloc (Obj.cells #[Value.int IntKind.i64 n, Value.slice A es.length c] 25)).alloc (Obj.cells #[Value.int IntKind.i64 a, Value.int IntKind.i64 b] 49)).alloc (Obj.cells #[Value.int IntKind.i64 0, Value.slice none 0 0] 25) := ⟨_, rfl⟩
  rw [← hW0]
  have hX0 : Box2 w w.heap.size (.int .i64 n) (.slice A es.length c) 25 W0 := by rw [hW0]; exact ((Box2.new (Below.refl _ _) _ _ _).old _).old _
  have hX1 : Box2 w (w.heap.size + 1) (.int .i64 a) (.int .i64 b) 49 W0 := by
    rw [hW0]
    have := Box2.new (w := w) (wc := w.alloc (Obj.cells #[Value.int IntKind.i64 n, Value.slice A es.length c] 25)) ((Below.refl _ _).alloc (Nat.le_refl _) _) (.int .i64 a) (.int .i64 b) 49
    rw [World.size_alloc] at this
    exact this.old _
  have hX2 : Box2 w (w.heap.size + 1 + 1) (.int .i64 0) (.slice none 0 0) 25 W0 := by
    rw [hW0]
    have := Box2.new (w := w) (wc := (w.alloc (Obj.cells #[Value.int IntKind.i64 n, Value.slice A es.length c] 25)).alloc (Obj.cells #[Value.int IntKind.i64 a, Value.int IntKind.i64 b] 49)) (((Below.refl _ _).alloc (Nat.le_refl _) _).alloc (by simp) _) (.int .i64 0) (.slice none 0 0) 25
    rw [World.size_alloc, World.size_alloc] at this
    exact this
  have hsz : w.heap.size + 1 + 1 < W0.heap.size := hX2.lt
  clear hW0
  have c0 := hX0.c0
  have c1 := hX0.c1
  have d0 := hX1.c0
  have d1 := hX1.c1
  go_wp2_with (go_at_call 59; (refine (HAD W0 hX0.below).mono ?_; rintro e w1 ⟨n', A', l', c', err, rfl, hb1, hE⟩; have hY := hX2.go hb1; have y0 := hY.c0; have y1 := hY.c1; have z0 := hY.f0 0; have z1 := hY.f0 1))
  have hF := hY.set (show w.heap.size ≤ w.heap.size + 1 + 1 by omega) (.int .i64 n') (.slice A' l' c')
  obtain ⟨wf, hwf⟩ : ∃ wf, wf = ((w1.setCell { block := w.heap.size + 1 + 1, off := 0 } (Value.int IntKind.i64 n')).setCell { block := w.heap.size + 1 + 1, off := 1 } (Value.slice A' l' c')) := ⟨_, rfl⟩
  rw [← hwf] at hF ⊢
  have k0 := hF.c0
  have k1 := hF.c1
  refine bodyPost_ret (v := .tuple #[.agg #[.int .i64 n', .slice A' l' c'], .int .i64 err]) (by simp [results, Try.results47, go_sem, k0, k1]) rfl ?_
  refine ⟨n', A', l', c', err, rfl, hF.below, hE.out.1, fun h => ?_⟩
  obtain ⟨h1, h2, h3, h4⟩ := hE.out.2 h
  refine ⟨h1, h2, h3, ?_⟩
  rw [hwf]
  exact own_cast (own_set (a := ⟨w.heap.size + 1 + 1, 1, none⟩) (own_set (a := ⟨w.heap.size + 1 + 1, 0, none⟩) h4 hsz _) hsz _) (by omega) rfl rfl
end Go.Proofs.Ytgddfmfiiodgbaa
