/- The walk of Small: a right graph of no more vertices and edges than are allowed. -/
import Derived.Test.YtglhdoibglafbaaMGadgetPlaces8
namespace Go.Proofs.Ytglhdoibglafbaa
open Go Go.RowKit
set_option maxRecDepth 100000
set_option linter.unusedVariables false

/-- A right graph, by value, that reads in the world. -/
def GraphPost (V E : Int) (w : World) (e : Ending) (w' : World) : Prop :=
  ∃ n es A c, e = .returned (.agg #[.int .i64 n, .slice A es.length c]) ∧ RightP n es ∧ n ≤ V ∧ (es.length : Int) ≤ E ∧ es.length ≤ c ∧ Reads w' A (pcells es) ∧ Below w.heap.size w w'

theorem addAny (n a b : Int) (es : List (Int × Int)) (A : Option Addr) (c : Nat) (w : World) (hr : Reads w A (pcells es)) (hc : es.length ≤ c) (hm : es.length ≤ 4611686018427387903) :
    Calls Try.prog 58 #[.agg #[.int .i64 n, .slice A es.length c], .int .i64 a, .int .i64 b] w fun e w' => ∃ (n' : Int) (A' : Option Addr) (l' c' : Nat) (err : Int),
      e = .returned (.tuple #[.agg #[.int .i64 n', .slice A' l' c'], .int .i64 err]) ∧ Below w.heap.size w w' ∧
      Hid (err = addErr n es a b ∧ (err = 0 → n' = n ∧ l' = es.length + 1 ∧ l' ≤ c' ∧ w'.ownsRow w.heap.size 28 2 (.slice A' l' c') l' (pcells (putE es (min a b, max a b))))) :=
  (refAdd n a b es A c w hr hc hm).mono fun e w' h => by
    rcases h with ⟨h0, he, hb⟩ | ⟨h0, v, he, ho, hb⟩
    · exact ⟨0, none, 0, 0, _, he, hb, rfl, fun h => absurd h h0⟩
    · obtain ⟨A', c', rfl, hl, _⟩ := own_reads0 ho
      exact ⟨n, A', _, c', 0, he, hb, h0.symm, fun _ => ⟨rfl, rfl, hl, ho⟩⟩

theorem mod_u (x V : Int) (h0 : 0 ≤ V) (h1 : V ≤ 4096) : 0 ≤ wrap64 ((IntKind.u64.wrap x).tmod (V + 1)) ∧ wrap64 ((IntKind.u64.wrap x).tmod (V + 1)) ≤ V := by
  have h2 : 0 ≤ IntKind.u64.wrap x := by rw [IntKind.wrap_u64]; omega
  generalize IntKind.u64.wrap x = u at *
  have h3 := Int.tmod_nonneg (V + 1) h2
  have h4 := Int.tmod_lt_of_pos u (show 0 < V + 1 by omega)
  unfold wrap64
  omega


set_option maxHeartbeats 4000000 in
theorem small_any (n0 V E : Int) (ends : List Int) (Ae : Option Addr) (ce : Nat) (w : World) (hV : 0 ≤ V) (hV2 : V ≤ 4096) (hE : 0 ≤ E) (hE2 : E ≤ 60000) (hn1 : -9223372036854775808 ≤ n0) (hn2 : n0 ≤ 9223372036854775807)
    (hr : Reads w Ae (icells ends)) (hc : ends.length ≤ ce) (hm : ends.length ≤ 4611686018427387903) :
    Calls Try.prog 41 #[.int .i64 n0, .slice Ae ends.length ce, .int .i64 V, .int .i64 E] w (GraphPost V E w) := by
  go_enter Try.func41, Try.ntmps41
  go_wp2_with fail
  have hN := mod_u n0 V hV hV2
  generalize wrap64 ((IntKind.u64.wrap n0).tmod (V + 1)) = N at hN ⊢
  generalize hW : (w.alloc (Obj.cells #[Value.int IntKind.i64 0, Value.slice none 0 0] 25)).alloc (Obj.cells #[Value.int IntKind.i64 N, Value.slice none 0 0] 25) = W
  have hbW : Below w.heap.size w W := by rw [← hW]; (repeat (first | with_reducible exact Below.refl _ _ | with_reducible assumption | with_reducible refine below_drewN0 ?_ _ | with_reducible refine Below.drew ?_ | with_reducible refine Below.alloc ?_ ?_ _ | with_reducible refine Below.setCell ?_ ?_ _ | go_size | exact Below.size (by assumption)))
  have hA0 : W.heap[w.heap.size]? = some (.cells #[Value.int IntKind.i64 0, Value.slice none 0 0] 25 (0, 0)) := by rw [← hW]; exact heap_old (heap_alloc_new w _)
  have hR0 : W.heap[w.heap.size + 1]? = some (.cells #[Value.int IntKind.i64 N, Value.slice none 0 0] 25 (0, 0)) := by
    rw [← hW]
    have := heap_alloc_new (w.alloc (Obj.cells #[Value.int IntKind.i64 0, Value.slice none 0 0] 25)) (Obj.cells #[Value.int IntKind.i64 N, Value.slice none 0 0] 25)
    rwa [World.size_alloc] at this
  have hsz : W.heap.size = w.heap.size + 2 := by rw [← hW]; simp
  clear hW
  go_loopw [10] (fun i wr => ∃ (k : Nat) (es : List (Int × Int)) (A : Option Addr) (c : Nat), i = .int .i64 k ∧ k ≤ 401 ∧ Hid (RightP N es ∧ (es.length : Int) ≤ E) ∧ es.length ≤ c ∧
    Hid (wr.heap[w.heap.size]? = some (.cells #[Value.int IntKind.i64 0, Value.slice none 0 0] 25 (0, 0))) ∧ Hid (wr.heap[w.heap.size + 1]? = some (.cells #[Value.int IntKind.i64 N, Value.slice A es.length c] 25 (0, 0))) ∧
    wr.ownsRow (w.heap.size + 2) 28 2 (.slice A es.length c) es.length (pcells es) ∧ Below w.heap.size w wr) (fun i _ => 402 - (intOf i).toNat)
  case atStart => exact ⟨0, [], none, 0, rfl, by omega, ⟨⟨hN.1, by omega, by simp, by simp, by simp⟩, by simpa using hE⟩, by simp, hA0, hR0, own_nil0 _ _ _ _, hbW⟩
  case round =>
    clear hA0 hR0 hbW hsz W
    obtain ⟨k, es, A, c, rfl, hk, hes, hc', hgA, hgR, how, hb⟩ := hrel
    have hr' := hr.below hb
    obtain ⟨a0, a1, a2, a3, a4⟩ := blk2 hgA.out
    obtain ⟨r0, r1, r2, r3, r4⟩ := blk2 hgR.out
    by_cases c1 : k + 1 < ends.length
    case neg =>
      have c1' : decide ((k : Int) + 1 < (ends.length : Int)) = false := decide_eq_false (by omega)
      (go_wp2_with fail
       refine bodyPost_ret (v := .agg #[.int .i64 N, .slice A es.length c]) (by simp [results, Try.results41, go_sem, a0, a1]) rfl ?_
       refine ⟨N, es, A, c, rfl, hes.out.1, hN.2, by have := hes.out.2; omega, hc', ?_, (by (repeat (first | with_reducible exact Below.refl _ _ | with_reducible assumption | with_reducible refine below_drewN0 ?_ _ | with_reducible refine Below.drew ?_ | with_reducible refine Below.alloc ?_ ?_ _ | with_reducible refine Below.setCell ?_ ?_ _ | go_size | exact Below.size (by assumption))))⟩
       obtain ⟨A2, c2, hA2, _, hrd⟩ := own_reads0 (own_set (own_set how (a := ⟨w.heap.size, 0, none⟩) (by dsimp only; omega) (.int .i64 N)) (a := ⟨w.heap.size, 1, none⟩) (by dsimp only; omega) (.slice A es.length c))
       simp at hA2
       obtain ⟨rfl, rfl⟩ := hA2
       exact hrd)
    have c1' : decide ((k : Int) + 1 < (ends.length : Int)) = true := decide_eq_true (by omega)
    by_cases c2 : (es.length : Int) < E
    case neg =>
      have c2' : decide ((es.length : Int) < E) = false := decide_eq_false c2
      (go_wp2_with fail
       refine bodyPost_ret (v := .agg #[.int .i64 N, .slice A es.length c]) (by simp [results, Try.results41, go_sem, a0, a1]) rfl ?_
       refine ⟨N, es, A, c, rfl, hes.out.1, hN.2, by have := hes.out.2; omega, hc', ?_, (by (repeat (first | with_reducible exact Below.refl _ _ | with_reducible assumption | with_reducible refine below_drewN0 ?_ _ | with_reducible refine Below.drew ?_ | with_reducible refine Below.alloc ?_ ?_ _ | with_reducible refine Below.setCell ?_ ?_ _ | go_size | exact Below.size (by assumption))))⟩
       obtain ⟨A2, c2, hA2, _, hrd⟩ := own_reads0 (own_set (own_set how (a := ⟨w.heap.size, 0, none⟩) (by dsimp only; omega) (.int .i64 N)) (a := ⟨w.heap.size, 1, none⟩) (by dsimp only; omega) (.slice A es.length c))
       simp at hA2
       obtain ⟨rfl, rfl⟩ := hA2
       exact hrd)
    have c2' : decide ((es.length : Int) < E) = true := decide_eq_true c2
    by_cases c3 : 0 < N
    case neg =>
      have c3' : decide (0 < N) = false := decide_eq_false c3
      (go_wp2_with fail
       refine bodyPost_ret (v := .agg #[.int .i64 N, .slice A es.length c]) (by simp [results, Try.results41, go_sem, a0, a1]) rfl ?_
       refine ⟨N, es, A, c, rfl, hes.out.1, hN.2, by have := hes.out.2; omega, hc', ?_, (by (repeat (first | with_reducible exact Below.refl _ _ | with_reducible assumption | with_reducible refine below_drewN0 ?_ _ | with_reducible refine Below.drew ?_ | with_reducible refine Below.alloc ?_ ?_ _ | with_reducible refine Below.setCell ?_ ?_ _ | go_size | exact Below.size (by assumption))))⟩
       obtain ⟨A2, c2, hA2, _, hrd⟩ := own_reads0 (own_set (own_set how (a := ⟨w.heap.size, 0, none⟩) (by dsimp only; omega) (.int .i64 N)) (a := ⟨w.heap.size, 1, none⟩) (by dsimp only; omega) (.slice A es.length c))
       simp at hA2
       obtain ⟨rfl, rfl⟩ := hA2
       exact hrd)
    have c3' : decide (0 < N) = true := decide_eq_true c3
    by_cases c4 : k < 400
    case neg =>
      have c4' : decide ((k : Int) < 400) = false := decide_eq_false (by omega)
      (go_wp2_with fail
       refine bodyPost_ret (v := .agg #[.int .i64 N, .slice A es.length c]) (by simp [results, Try.results41, go_sem, a0, a1]) rfl ?_
       refine ⟨N, es, A, c, rfl, hes.out.1, hN.2, by have := hes.out.2; omega, hc', ?_, (by (repeat (first | with_reducible exact Below.refl _ _ | with_reducible assumption | with_reducible refine below_drewN0 ?_ _ | with_reducible refine Below.drew ?_ | with_reducible refine Below.alloc ?_ ?_ _ | with_reducible refine Below.setCell ?_ ?_ _ | go_size | exact Below.size (by assumption))))⟩
       obtain ⟨A2, c2, hA2, _, hrd⟩ := own_reads0 (own_set (own_set how (a := ⟨w.heap.size, 0, none⟩) (by dsimp only; omega) (.int .i64 N)) (a := ⟨w.heap.size, 1, none⟩) (by dsimp only; omega) (.slice A es.length c))
       simp at hA2
       obtain ⟨rfl, rfl⟩ := hA2
       exact hrd)
    have c4' : decide ((k : Int) < 400) = true := decide_eq_true (by omega)
    obtain ⟨z1, hz1⟩ : ∃ z, ends[k]? = some z := ⟨ends[k]'(by omega), by simp⟩
    obtain ⟨z2, hz2⟩ : ∃ z, ends[k + 1]? = some z := ⟨ends[k + 1], by simp⟩
    obtain ⟨b, o, rfl, hbl, e1⟩ := hr'.int k z1 hz1
    obtain ⟨b', o', hbo, _, e2⟩ := hr'.int (k + 1) z2 hz2
    obtain ⟨rfl, rfl⟩ : b' = b ∧ o' = o := by simpa using hbo.symm
    clear hbo hz1 hz2
    have k0 : (0 : Int) ≤ (k : Int) + 1 := by omega
    have k1 : ((k : Int) + 1).toNat = k + 1 := by omega
    have hrE : Hid (∀ w', Below wr.heap.size wr w' → Reads w' A (pcells es)) := by
      obtain ⟨A2, c2, hA2, _, hrd⟩ := own_reads0 how
      simp at hA2
      obtain ⟨rfl, rfl⟩ := hA2
      exact fun w' h' => hrd.below h'
    have hwr := hb.size
    have i1 : (k : Int) < (ends.length : Int) := by omega
    have i2 : (k : Int) + 1 < (ends.length : Int) := by omega
    have n1 : (N == 0) = false := by simp; omega
    have n2 : ¬ N = 0 := by omega
    have n3 := hN.1
    have n4 : N ≤ 4096 := by omega
    have u1 : IntKind.u64.wrap N = N := by rw [IntKind.wrap_u64]; omega
    have u2 : IntKind.i64.wrap ((k : Int) + 1) = (k : Int) + 1 := by rw [IntKind.wrap_i64]; omega
    have HS : Hid (∀ w', Below wr.heap.size wr w' → w'.cell? ⟨w.heap.size + 1, 0, none⟩ = some (.int .i64 N) ∧ w'.cell? ⟨w.heap.size + 1, 1, none⟩ = some (.slice A es.length c) ∧ w'.cell? ⟨b', o' + k, none⟩ = some (.int .i64 z1) ∧ w'.cell? ⟨b', o' + (k + 1), none⟩ = some (.int .i64 z2)) :=
      fun w' h' => ⟨(h'.cell (p := ⟨_, 0, none⟩) r4).trans r0, (h'.cell (p := ⟨_, 1, none⟩) r4).trans r1, (h'.cell (p := ⟨b', _, none⟩) hbl).trans e1, (h'.cell (p := ⟨b', _, none⟩) hbl).trans e2⟩
    go_wp2_with fail
    go_region_held3 (fun w' => w'.cell? ⟨w.heap.size + 1, 0, none⟩ = some (.int .i64 N) ∧ w'.cell? ⟨w.heap.size + 1, 1, none⟩ = some (.slice A es.length c) ∧ w'.cell? ⟨b', o' + k, none⟩ = some (.int .i64 z1) ∧ w'.cell? ⟨b', o' + (k + 1), none⟩ = some (.int .i64 z2))
      (first | exact HS.out _ hb1 | exact HS.out _ (Below.alloc hb1 hb1.size _) | exact HS.out _ ((((Below.alloc hb1 hb1.size _).setCell hb1.size _).setCell hb1.size _)) | (refine HS.out _ ?_; (repeat (first | with_reducible exact Below.refl _ _ | with_reducible assumption | with_reducible refine below_drewN0 ?_ _ | with_reducible refine Below.drew ?_ | with_reducible refine Below.alloc ?_ ?_ _ | with_reducible refine Below.setCell ?_ ?_ _ | go_size | exact Below.size (by assumption))); done))
      (first | (go_at_call 58; refine (addAny N _ _ es A c _ (hrE.out _ ?_) hc' (by omega)).mono ?_; (repeat (first | with_reducible exact Below.refl _ _ | with_reducible assumption | with_reducible refine below_drewN0 ?_ _ | with_reducible refine Below.drew ?_ | with_reducible refine Below.alloc ?_ ?_ _ | with_reducible refine Below.setCell ?_ ?_ _ | go_size | exact Below.size (by assumption))); rintro e w1 ⟨n', A', l', c'', err, rfl, hb1', hE1⟩; have hb1 : Below wr.heap.size wr w1 := Below.trans (by (repeat (first | with_reducible exact Below.refl _ _ | with_reducible assumption | with_reducible refine below_drewN0 ?_ _ | with_reducible refine Below.drew ?_ | with_reducible refine Below.alloc ?_ ?_ _ | with_reducible refine Below.setCell ?_ ?_ _ | go_size | exact Below.size (by assumption)))) (hb1'.mono (by go_size)); obtain ⟨q0, q1, q2, q3, q4⟩ := blk2 ((hb1.block (w.heap.size + 1) r4).trans hgR.out); first | (have hz := blk2 ((hb1'.block wr.heap.size (by simp)).trans (heap_alloc_new _ _)); obtain ⟨y0, y1, y2, y3, y4⟩ := hz) | skip))
    all_goals have hX1 := hb1.size
    all_goals have hA1 : w1.heap[w.heap.size]? = some (.cells #[Value.int IntKind.i64 0, Value.slice none 0 0] 25 (0, 0)) := (hb1.block w.heap.size (by omega)).trans hgA.out
    all_goals have hR1 : w1.heap[w.heap.size + 1]? = some (.cells #[Value.int IntKind.i64 N, Value.slice A es.length c] 25 (0, 0)) := (hb1.block (w.heap.size + 1) r4).trans hgR.out
    all_goals have how1 := own_below0 (own_far how (fun g hg => hb1.block g (own_lt0 how g hg).2)) (Below.refl _ w1)
    all_goals have HA1 := Lib.hid hA1
    all_goals have HR1 := Lib.hid hR1
    all_goals clear hA1 hR1
    · by_cases he0 : err = 0
      · obtain ⟨hne, hgo⟩ := hE1.out
        obtain ⟨e1, e2, hl, ho⟩ := hgo he0
        subst e1 e2 he0
        have hz := addErr_zero hne.symm
        go_wp2_with fail
        go_roundw
        case rel =>
          refine ⟨k + 2, _, A', c'', by go_num, by omega, ⟨hz.2.1, by rw [putE_length]; omega⟩, by rw [putE_length]; exact hl, ?_, ?_, ?_, ?_⟩
          · unfold Hid; exact heap_old (heap_far (heap_far HA1.out (by dsimp only; omega) _) (by dsimp only; omega) _)
          · unfold Hid; rw [putE_length]; exact heap_old (heap_set2 HR1.out _ _)
          · rw [putE_length]
            exact own_cast (own_below0 (own_set (a := ⟨w.heap.size + 1, 1, none⟩) (own_set (a := ⟨w.heap.size + 1, 0, none⟩) ho (by simp; omega) _) (by simp; omega) _) (Below.alloc (Below.refl _ _) (Nat.le_refl _) _)) (by simp; omega) rfl rfl
          · exact hb.trans (Below.trans (hb1.mono hwr) (by (repeat (first | with_reducible exact Below.refl _ _ | with_reducible assumption | with_reducible refine below_drewN0 ?_ _ | with_reducible refine Below.drew ?_ | with_reducible refine Below.alloc ?_ ?_ _ | with_reducible refine Below.setCell ?_ ?_ _ | go_size | exact Below.size (by assumption)))))
        case measure => simp [intOf]; omega
      · have he0' : (err == 0) = false := by simpa using he0
        go_wp2_with fail
        go_roundw
        case rel =>
          refine ⟨k + 2, es, A, c, by go_num, by omega, hes, hc', ?_, ?_, ?_, ?_⟩
          · exact heap_old HA1.out
          · exact heap_old HR1.out
          · exact own_below0 how1 (by (repeat (first | with_reducible exact Below.refl _ _ | with_reducible assumption | with_reducible refine below_drewN0 ?_ _ | with_reducible refine Below.drew ?_ | with_reducible refine Below.alloc ?_ ?_ _ | with_reducible refine Below.setCell ?_ ?_ _ | go_size | exact Below.size (by assumption))))
          · exact hb.trans (Below.trans (hb1.mono hwr) (by (repeat (first | with_reducible exact Below.refl _ _ | with_reducible assumption | with_reducible refine below_drewN0 ?_ _ | with_reducible refine Below.drew ?_ | with_reducible refine Below.alloc ?_ ?_ _ | with_reducible refine Below.setCell ?_ ?_ _ | go_size | exact Below.size (by assumption)))))
        case measure => simp [intOf]; omega
    · by_cases he0 : err = 0
      · obtain ⟨hne, hgo⟩ := hE1.out
        obtain ⟨e1, e2, hl, ho⟩ := hgo he0
        subst e1 e2 he0
        have hz := addErr_zero hne.symm
        go_wp2_with fail
        go_roundw
        case rel =>
          refine ⟨k + 2, _, A', c'', by go_num, by omega, ⟨hz.2.1, by rw [putE_length]; omega⟩, by rw [putE_length]; exact hl, ?_, ?_, ?_, ?_⟩
          · unfold Hid; exact heap_far (heap_far (heap_far (heap_far HA1.out (by dsimp only; omega) _) (by dsimp only; omega) _) (by dsimp only; omega) _) (by dsimp only; omega) _
          · unfold Hid; rw [putE_length]; exact heap_set2 (heap_far (heap_far HR1.out (by dsimp only; omega) _) (by dsimp only; omega) _) _ _
          · rw [putE_length]
            refine own_cast (own_set (own_set (own_set (own_set ho (by simp) _) (by simp) _) (by simp; omega) _) (by simp; omega) _) (by simp; omega) rfl rfl
          · exact hb.trans (Below.trans (hb1.mono hwr) (by (repeat (first | with_reducible exact Below.refl _ _ | with_reducible assumption | with_reducible refine below_drewN0 ?_ _ | with_reducible refine Below.drew ?_ | with_reducible refine Below.alloc ?_ ?_ _ | with_reducible refine Below.setCell ?_ ?_ _ | go_size | exact Below.size (by assumption)))))
        case measure => simp [intOf]; omega
      · have he0' : (err == 0) = false := by simpa using he0
        go_wp2_with fail
        go_roundw
        case rel =>
          refine ⟨k + 2, es, A, c, by go_num, by omega, hes, hc', ?_, ?_, ?_, ?_⟩
          · exact heap_far (heap_far HA1.out (by dsimp only; omega) _) (by dsimp only; omega) _
          · exact heap_far (heap_far HR1.out (by dsimp only; omega) _) (by dsimp only; omega) _
          · refine own_far (own_far how1 (fun g hg => Below.heap_setCell _ _ _ _ ?_)) (fun g hg => Below.heap_setCell _ _ _ _ ?_)
            · have := (own_lt0 how g hg).2; dsimp only; omega
            · have := (own_lt0 how g hg).2; dsimp only; omega
          · exact hb.trans (Below.trans (hb1.mono hwr) (by (repeat (first | with_reducible exact Below.refl _ _ | with_reducible assumption | with_reducible refine below_drewN0 ?_ _ | with_reducible refine Below.drew ?_ | with_reducible refine Below.alloc ?_ ?_ _ | with_reducible refine Below.setCell ?_ ?_ _ | go_size | exact Below.size (by assumption)))))
        case measure => simp [intOf]; omega
end Go.Proofs.Ytglhdoibglafbaa

/- The walk of the law GadgetPlaces. -/
namespace Go.Proofs.Ytglhdoibglafbaa
open Go Go.RowKit
set_option maxRecDepth 100000
set_option linter.unusedVariables false

theorem pick_in (x : Int) : 0 ≤ wrap64 ((IntKind.u64.wrap x).tmod 6) ∧ wrap64 ((IntKind.u64.wrap x).tmod 6) ≤ 5 := by
  have := mod_u x 5 (by omega) (by omega)
  simpa using this

theorem cntV_bd (l : List Pl) (b : Bool) (v : Nat) : 0 ≤ cntV l b v ∧ cntV l b v ≤ (l.length : Int) := by
  unfold cntV
  have := List.countP_le_length (p := fun x : Pl => decide (x.1 = (v : Int)) && (x.2.2 == b)) (l := l)
  omega

set_option maxHeartbeats 8000000 in
theorem gplaces_any (n0 : Int) (hn1 : -9223372036854775808 ≤ n0) (hn2 : n0 ≤ 9223372036854775807) (ends l : List Int) (Ae Al : Option Addr) (ce cl : Nat) (w : World) (hre : Reads w Ae (icells ends)) (hce : ends.length ≤ ce) (hme : ends.length ≤ 4611686018427387903)
    (hrl : Reads w Al (icells l)) (hcl : l.length ≤ cl) (hml : l.length ≤ 4611686018427387903) :
    Calls Try.prog 9 #[.int .i64 n0, .slice Ae ends.length ce, .slice Al l.length cl] w fun e w' => e = .returned (.bool true) ∧ Below w.heap.size w w' := by
  have HA := fun W => awake24 W
  have HSm := fun W h => small_any n0 10 16 ends Ae ce W (by omega) (by omega) (by omega) (by omega) hn1 hn2 h hce hme
  have hmk := fun (N : Nat) (hN : N ≤ 65536) (w0 : World) => run_make_row' (P := Try.prog) 26 3 (.int .i64 0) 8 Try.underlying26 (by kernel_rfl) rfl .i64 .i64 N (by omega) (by omega) w0
  go_enter Try.func9, Try.ntmps9
  go_upto_region 2 with (first
    | (go_at_call 41; go_loud (
        refine (HSm _ (hre.below ?_)).mono ?_
        · (repeat (first | with_reducible exact Below.refl _ _ | with_reducible assumption | with_reducible refine below_drewN0 ?_ _ | with_reducible refine Below.drew ?_ | with_reducible refine Below.alloc ?_ ?_ _ | with_reducible refine Below.setCell ?_ ?_ _ | go_size | exact Below.size (by assumption)))
        rintro e w1 ⟨n, es, A, c, rfl, hR, hV, hE, hc, hr, hb1⟩
        have hbw : Below w.heap.size w w1 := Below.trans (by (repeat (first | with_reducible exact Below.refl _ _ | with_reducible assumption | with_reducible refine below_drewN0 ?_ _ | with_reducible refine Below.drew ?_ | with_reducible refine Below.alloc ?_ ?_ _ | with_reducible refine Below.setCell ?_ ?_ _ | go_size | exact Below.size (by assumption)))) (hb1.mono (by simp))
        obtain ⟨m, rfl⟩ : ∃ m : Nat, n = m := ⟨n.toNat, by have := hR.n0; omega⟩)))
  have hmk1 := hmk m (by omega)
  have hm10 : m ≤ 10 := by omega
  have HMK := Lib.hid hmk
  clear hmk
  obtain ⟨q0, q1, q2, q3, q4⟩ := blk2 (heap_alloc_new w1 (Obj.cells #[Value.int .i64 (m : Int), Value.slice A es.length c] 25))
  go_upto_region 4 with fail
  rw [made_zero] at *
  have hf0 := heap_alloc_new (w1.alloc (Obj.cells #[Value.int .i64 (m : Int), Value.slice A es.length c] 25)) (Obj.cells (icells (List.replicate m 0)).toArray 3)
  have hq0 := heap_old (o' := Obj.cells (icells (List.replicate m 0)).toArray 3) (heap_alloc_new w1 (Obj.cells #[Value.int .i64 (m : Int), Value.slice A es.length c] 25))
  have hb2 : Below w1.heap.size w1 ((w1.alloc (Obj.cells #[Value.int .i64 (m : Int), Value.slice A es.length c] 25)).alloc (Obj.cells (icells (List.replicate m 0)).toArray 3)) := by (repeat (first | with_reducible exact Below.refl _ _ | with_reducible assumption | with_reducible refine below_drewN0 ?_ _ | with_reducible refine Below.drew ?_ | with_reducible refine Below.alloc ?_ ?_ _ | with_reducible refine Below.setCell ?_ ?_ _ | go_size | exact Below.size (by assumption)))
  have hbs : ((w1.alloc (Obj.cells #[Value.int .i64 (m : Int), Value.slice A es.length c] 25)).alloc (Obj.cells (icells (List.replicate m 0)).toArray 3)).heap.size = w1.heap.size + 1 + 1 := by simp
  rw [World.size_alloc] at hf0
  have hrl1 := hrl.below hbw
  clear q0 q1 q2 q3 q4 hb1 hre hrl HSm
  generalize (w1.alloc (Obj.cells #[Value.int .i64 (m : Int), Value.slice A es.length c] 25)).alloc (Obj.cells (icells (List.replicate m 0)).toArray 3) = w2 at *
  have HQ0 := Lib.hid hq0
  have HF0 := Lib.hid hf0
  clear hq0 hf0
  go_loopw [31] (fun i wx => ∃ (k : Nat) (fl : List Int), k ≤ m ∧ i = .int .i64 k ∧ fl.length = m ∧ (∀ x ∈ fl, 0 ≤ x ∧ x ≤ 5) ∧ Hid (RowI wx 3 (w1.heap.size + 1) fl) ∧ Hid (wx.heap[w1.heap.size]? = some (.cells #[Value.int .i64 (m : Int), Value.slice A es.length c] 25 (0, 0))) ∧ Below w1.heap.size w1 wx ∧ w1.heap.size + 1 + 1 ≤ wx.heap.size) (fun i _ => m - (intOf i).toNat)
  case atStart => exact ⟨0, _, Nat.zero_le _, rfl, by simp, by intro x hx; simp at hx; omega, HF0, HQ0, hb2, by omega⟩
  case round =>
    clear HQ0 HF0 hb2 hbs
    obtain ⟨k, fl, hk, rfl, hfl, hfx, hF, hQ, hb, hs2⟩ := hrel
    by_cases hkm : k < m
    · have kI : (k : Int) < (m : Int) := by omega
      have hfz := hF.out.frozen k
      have hfl0 := hF.out.lt
      obtain ⟨x0, hx0⟩ : ∃ x, fl[k]? = some x := ⟨fl[k], by simp⟩
      have hfc := hF.out.cell hx0
      clear hx0
      by_cases hkl : k < l.length
      · obtain ⟨z, hz⟩ : ∃ x, l[k]? = some x := ⟨l[k], by simp⟩
        obtain ⟨b, o, rfl, hbl, e1⟩ := (hrl1.below hb).int k z hz
        have klI : (k : Int) < (l.length : Int) := by omega
        have hpi := pick_in z
        clear hz
        go_wp2_with fail
        go_roundw
        case rel =>
          refine ⟨k + 1, fl.set k (wrap64 ((IntKind.u64.wrap z).tmod 6)), by omega, by go_num, by simp [hfl], fun x hx => ?_, hF.out.set k _, heap_far hQ.out (by dsimp only; omega) _, hb.setCell (p := ⟨w1.heap.size + 1, k, none⟩) (by dsimp only; omega) _, by rw [World.size_setCell]; exact hs2⟩
          rcases List.mem_or_eq_of_mem_set hx with h | h
          · exact hfx x h
          · rw [h]; exact hpi
        case measure => simp [intOf]; omega
      · go_wp2_with fail
        go_roundw
        case rel => exact ⟨k + 1, fl, by omega, by go_num, hfl, hfx, hF, hQ, hb, hs2⟩
        case measure => simp [intOf]; omega
    · obtain rfl : k = m := by omega
      obtain ⟨V, rfl⟩ : ∃ V : World, V = wr := ⟨_, rfl⟩
      have hde : degErr k es fl = 0 := degErr_zero hR hfl (fun x hx => by have := hfx x hx; omega)
      have hgp := gp_facts k es fl hde (by omega)
      have hVs := hb.size
      have HPl := fun W h1 h2 => places_any k es fl A (some ⟨w1.heap.size + 1, 0, none⟩) c k W h1 hc (by omega) h2 (by omega) (by omega) hde
      have HEd := fun W h1 h2 => edges_any k es fl A (some ⟨w1.heap.size + 1, 0, none⟩) c k W h1 hc (by omega) h2 (by omega) (by omega) hde
      simp only [hfl] at HPl HEd
      unfold PlPost at HPl
      unfold EdPost at HEd
      generalize plAll k es fl = pl at *
      generalize edgesL k es fl = el at *
      have hQl := heap_lt0 hQ.out
      have hFl := hF.out.lt
      have hQQ := Lib.hid (fun (W : World) (h : Below V.heap.size V W) => (h.block w1.heap.size hQl).trans hQ.out)
      have hFF := Lib.hid (fun (W : World) (h : Below V.heap.size V W) => hF.out.below h hFl)
      have hrV := hr.below hb
      have hcur : Below V.heap.size V V := Below.refl _ _
      have hFx := hfx
      clear hrl1 hr hQ hF hfx
      obtain ⟨q0, q1, q2, q3, q4⟩ := blk2 (hQQ.out V hcur)
      go_upto_region 13 with (first
        | (go_at_call 46; go_loud (refine (HPl _ (hrV.below hcur) (hFF.out _ hcur).reads).mono ?_; rintro e w3 ⟨v3, rfl, ho3, hbx⟩; obtain ⟨Ap, cp, rfl, hcp, hrp⟩ := own_reads0 ho3; have hcur' : Below V.heap.size V w3 := Below.trans hcur (hbx.mono hcur.size); clear hbx hcur ho3; have hcur := hcur'; clear hcur'; obtain ⟨q0, q1, q2, q3, q4⟩ := blk2 (hQQ.out _ hcur)))
        | (go_at_call 48; go_loud (refine (HEd _ (hrV.below hcur) (hFF.out _ hcur).reads).mono ?_; rintro e w4 ⟨Ax, cx, rfl, hcx, hrx, hbx⟩; have hrp' := hrp.below hbx; clear hrp; have hrp := hrp'; clear hrp'; have hcur' : Below V.heap.size V w4 := Below.trans hcur (hbx.mono hcur.size); clear hbx hcur; have hcur := hcur'; clear hcur'; obtain ⟨q0, q1, q2, q3, q4⟩ := blk2 (hQQ.out _ hcur)))
        | (go_at_call 16; go_loud (refine (HA _).mono ?_; rintro e w5 ⟨rfl, hbx⟩; have hrp' := hrp.below hbx; clear hrp; have hrp := hrp'; clear hrp'; have hrx' := hrx.below hbx; clear hrx; have hrx := hrx'; clear hrx'; have hcur' : Below V.heap.size V w5 := Below.trans hcur (hbx.mono hcur.size); clear hbx hcur; have hcur := hcur'; clear hcur'; obtain ⟨q0, q1, q2, q3, q4⟩ := blk2 (hQQ.out _ hcur))))
      clear q2 q3 q4
      obtain ⟨U, rfl⟩ : ∃ U : World, U = w5 := ⟨_, rfl⟩
      have hUs := hcur.size
      have hQU := Lib.hid (fun (W : World) (h : Below U.heap.size U W) => hQQ.out W (hcur.trans (h.mono hUs)))
      have hFU := Lib.hid (fun (W : World) (h : Below U.heap.size U W) => hFF.out W (hcur.trans (h.mono hUs)))
      have hrU := hrV.below hcur
      have hUB : Below w.heap.size w U := (hbw.trans (hb.mono hbw.size)).trans (hcur.mono (by have := hbw.size; omega))
      clear hQQ hFF hrV HPl HEd HA
      go_cut [14, 15] (fun v14 v15 wc => ∃ X Y : Nat, v14 = .slice (some ⟨X, 0, none⟩) k k ∧ v15 = .slice (some ⟨Y, 0, none⟩) k k ∧ X ≠ Y ∧ U.heap.size ≤ X ∧ U.heap.size ≤ Y ∧ Hid (RowI wc 3 X (cntL k [] false)) ∧ Hid (RowI wc 3 Y (cntL k [] true)) ∧ Below U.heap.size U wc)
      case first =>
        go_region_held3 (fun w' => w'.cell? ⟨w1.heap.size, 0, none⟩ = some (.int .i64 (k : Int))) (first | exact q0 | (refine (blk2 (hQU.out _ ?_)).1; (repeat (first | with_reducible exact Below.refl _ _ | with_reducible assumption | with_reducible refine below_drewN0 ?_ _ | with_reducible refine Below.drew ?_ | with_reducible refine Below.alloc ?_ ?_ _ | with_reducible refine Below.setCell ?_ ?_ _ | go_size | exact Below.size (by assumption))); done)) (fail)
        · go_wp2_with fail
          go_meet
          have h1 := heap_alloc_new U (Obj.cells (icells (List.replicate k 0)).toArray 3)
          have h2 := heap_old (o' := Obj.cells (icells (List.replicate k 0)).toArray 3) h1
          have h3 := heap_alloc_new (U.alloc (Obj.cells (icells (List.replicate k 0)).toArray 3)) (Obj.cells (icells (List.replicate k 0)).toArray 3)
          rw [World.size_alloc] at h3
          exact ⟨_, _, rfl, rfl, by go_size, by go_size, by go_size, by rw [cntL_nil]; exact h2, by rw [cntL_nil]; exact h3, by (repeat (first | with_reducible exact Below.refl _ _ | with_reducible assumption | with_reducible refine below_drewN0 ?_ _ | with_reducible refine Below.drew ?_ | with_reducible refine Below.alloc ?_ ?_ _ | with_reducible refine Below.setCell ?_ ?_ _ | go_size | exact Below.size (by assumption)))⟩
        · go_wp2_with fail
          go_meet
          have h1 := heap_alloc_new U (Obj.cells (icells (List.replicate k 0)).toArray 3)
          have h2 := heap_old (o' := Obj.cells (icells (List.replicate k 0)).toArray 3) h1
          have h3 := heap_alloc_new (U.alloc (Obj.cells (icells (List.replicate k 0)).toArray 3)) (Obj.cells (icells (List.replicate k 0)).toArray 3)
          rw [World.size_alloc] at h3
          exact ⟨_, _, rfl, rfl, by go_size, by go_size, by go_size, by rw [cntL_nil]; exact h3, by rw [cntL_nil]; exact h2, by (repeat (first | with_reducible exact Below.refl _ _ | with_reducible assumption | with_reducible refine below_drewN0 ?_ _ | with_reducible refine Below.drew ?_ | with_reducible refine Below.alloc ?_ ?_ _ | with_reducible refine Below.setCell ?_ ?_ _ | go_size | exact Below.size (by assumption)))⟩
      case rest =>
        obtain ⟨X, Y, rfl, rfl, hXY, hX, hY, hPX, hPY, hbc⟩ := hcut
        clear q0 q1 hmk1
        go_upto_region 15 with fail
        go_loopw [16] (fun i wx => ∃ (j : Nat), j ≤ pl.length ∧ i = .int .i64 j ∧ Hid (RowI wx 3 X (cntL k (pl.take j) false)) ∧ Hid (RowI wx 3 Y (cntL k (pl.take j) true)) ∧ Below U.heap.size U wx) (fun i _ => pl.length - (intOf i).toNat)
        case atStart => exact ⟨0, Nat.zero_le _, rfl, hPX, hPY, hbc⟩
        case round =>
          clear hPX hPY hbc
          obtain ⟨j, hj, rfl, hPX, hPY, hbx⟩ := hrel
          by_cases hjl : j < pl.length
          · have jI : (j : Int) < (pl.length : Int) := by omega
            obtain ⟨⟨xv, xn, xc⟩, hx⟩ : ∃ e, pl[j]? = some e := ⟨pl[j], by simp [hjl]⟩
            obtain ⟨b, o, rfl, hbl, e0, e1, e2⟩ := (hrp.below hbx).pl' j _ hx
            obtain ⟨v, hv, hxv, _⟩ := hgp.place j _ hx
            dsimp only at hxv e0 e1 e2
            subst hxv
            have hlen := hgp.len
            have htk : Hid (pl.take (j + 1) = pl.take j ++ [((v : Int), xn, xc)]) := by unfold Hid; rw [List.take_add_one, hx]; rfl
            have hbd := fun b => cntV_bd (pl.take j) b v
            have hlt := List.length_take_le j pl
            obtain ⟨g0, g1, g2, g3, g4⟩ := blk2 (hQU.out wr hbx)
            have t0 : decide ((v : Int) < 0) = false := decide_eq_false (by omega)
            have t1 : decide ((k : Int) ≤ (v : Int)) = false := decide_eq_false (by omega)
            have vI : (v : Int) < (k : Int) := by omega
            clear hx
            go_wp2_with fail
            go_quiet (fail)
            have hbW : Below wr.heap.size wr (wr.drewN nq) := below_drewN0 (Below.refl _ _) _
            have hPX2 : Hid (RowI (wr.drewN nq) 3 X (cntL k (pl.take j) false)) := hPX
            have hPY2 : Hid (RowI (wr.drewN nq) 3 Y (cntL k (pl.take j) true)) := hPY
            have hbx2 : Below U.heap.size U (wr.drewN nq) := below_drewN0 hbx _
            have e0' : (wr.drewN nq).cell? ⟨b, o + j * 3, none⟩ = some (.int .i64 (v : Int)) := e0
            have e2' : (wr.drewN nq).cell? ⟨b, o + j * 3 + 2, none⟩ = some (.bool xc) := e2
            clear hPX hPY hbx e0 e1 e2 g0 g1 g2 g3 g4
            generalize wr.drewN nq = W2 at *
            cases xc
            · have cX := hPX2.out.cell (cntL_get k (pl.take j) false v hv)
              have fX := hPX2.out.frozen v
              have hbd1 := hbd false
              go_wp2_with fail
              go_roundw
              case rel =>
                refine ⟨j + 1, by omega, by go_num, ?_, ?_, hbx2.setCell (p := ⟨X, v, none⟩) hX _⟩
                · rw [htk.out, cntL_set]; exact hPX2.out.set v _
                · rw [htk.out, cntL_same k _ _ true (by simp)]; exact hPY2.out.far (a := ⟨X, v, none⟩) (Ne.symm hXY) _
              case measure => simp [intOf]; omega
            · have cY := hPY2.out.cell (cntL_get k (pl.take j) true v hv)
              have fY := hPY2.out.frozen v
              have hbd1 := hbd true
              go_wp2_with fail
              go_roundw
              case rel =>
                refine ⟨j + 1, by omega, by go_num, ?_, ?_, hbx2.setCell (p := ⟨Y, v, none⟩) hY _⟩
                · rw [htk.out, cntL_same k _ _ false (by simp)]; exact hPX2.out.far (a := ⟨Y, v, none⟩) hXY _
                · rw [htk.out, cntL_set]; exact hPY2.out.set v _
              case measure => simp [intOf]; omega
          · obtain rfl : j = pl.length := by omega
            rw [List.take_length] at hPX hPY
            obtain ⟨U2, rfl⟩ : ∃ W : World, W = wr := ⟨_, rfl⟩
            have hlen := hgp.len
            have hmkL := HMK.out pl.length (by omega)
            have hU2s := hbx.size
            have hXl := hPX.out.lt
            have hYl := hPY.out.lt
            have hXX := Lib.hid (fun (W : World) (h : Below U2.heap.size U2 W) => hPX.out.below h hXl)
            have hYY := Lib.hid (fun (W : World) (h : Below U2.heap.size U2 W) => hPY.out.below h hYl)
            have hQ2 := Lib.hid (fun (W : World) (h : Below U2.heap.size U2 W) => hQU.out W (hbx.trans (h.mono hU2s)))
            have hF2 := Lib.hid (fun (W : World) (h : Below U2.heap.size U2 W) => hFU.out W (hbx.trans (h.mono hU2s)))
            have hrp2 := hrp.below hbx
            have hrx2 := hrx.below hbx
            have hr2 := hrU.below hbx
            have hwU : Below w.heap.size w U2 := hUB.trans (hbx.mono hUB.size)
            clear hPX hPY HMK hQU hFU hrp hrx hrU hjl hj hX hY
            go_upto_region 24 with fail
            rw [made_zero] at *
            have hZ0 : Hid (RowI (U2.alloc (Obj.cells (icells (List.replicate pl.length 0)).toArray 3)) 3 U2.heap.size (ports pl.length (el.take 0))) := heap_alloc_new _ _
            have hbZ : Below U2.heap.size U2 (U2.alloc (Obj.cells (icells (List.replicate pl.length 0)).toArray 3)) := by (repeat (first | with_reducible exact Below.refl _ _ | with_reducible assumption | with_reducible refine below_drewN0 ?_ _ | with_reducible refine Below.drew ?_ | with_reducible refine Below.alloc ?_ ?_ _ | with_reducible refine Below.setCell ?_ ?_ _ | go_size | exact Below.size (by assumption)))
            go_loopw [18] (fun i wx => ∃ (t : Nat), t ≤ el.length ∧ i = .int .i64 t ∧ Hid (RowI wx 3 U2.heap.size (ports pl.length (el.take t))) ∧ Below U2.heap.size U2 wx) (fun i _ => el.length - (intOf i).toNat)
            case atStart => exact ⟨0, Nat.zero_le _, rfl, hZ0, hbZ⟩
            case round =>
              clear hZ0 hbZ hmkL
              obtain ⟨t, ht, rfl, hZ, hby⟩ := hrel
              by_cases htl : t < el.length
              · have tI : (t : Int) < (el.length : Int) := by omega
                obtain ⟨⟨a, b⟩, hab⟩ : ∃ e, el[t]? = some e := ⟨el[t], by simp [htl]⟩
                obtain ⟨bx, ox, rfl, hbl, e0u, e1u⟩ := hrx2.pair' t _ hab
                obtain ⟨a0, a1, a2⟩ := hgp.right.ok _ (List.mem_of_getElem? hab)
                dsimp only at a0 a1 a2 e0u e1u
                obtain ⟨an, rfl⟩ : ∃ n : Nat, a = n := ⟨a.toNat, by omega⟩
                obtain ⟨bn, rfl⟩ : ∃ n : Nat, b = n := ⟨b.toNat, by omega⟩
                have HE := Lib.hid (fun (W : World) (h : Below U2.heap.size U2 W) => (⟨(h.cell (p := ⟨bx, ox + t * 2, none⟩) hbl).trans e0u, (h.cell (p := ⟨bx, ox + t * 2 + 1, none⟩) hbl).trans e1u⟩ : W.cell? ⟨bx, ox + t * 2, none⟩ = some (.int .i64 (an : Int)) ∧ W.cell? ⟨bx, ox + t * 2 + 1, none⟩ = some (.int .i64 (bn : Int))))
                obtain ⟨e0, e1⟩ := HE.out wr hby
                clear e0u e1u
                have hbump := Lib.hid (ports_take pl.length el t _ hab)
                have hpl2 := ports_length pl.length (el.take t)
                have hpb := ports_bound pl.length (el.take t)
                have hel := hgp.right.len
                have htk := List.length_take_le t el
                generalize ports pl.length (el.take t) = P at *
                obtain ⟨x, hx⟩ : ∃ x, P[an]? = some x := ⟨P[an]'(by omega), by simp⟩
                obtain ⟨y, hy⟩ : ∃ y, (P.set an (x + 1))[bn]? = some y := ⟨(P.set an (x + 1))[bn]'(by simp; omega), by simp⟩
                have hxb := hpb x (List.mem_of_getElem? hx)
                have hyb : 0 ≤ y ∧ y ≤ 2 * ((el.take t).length : Int) + 1 := by
                  rcases List.mem_or_eq_of_mem_set (List.mem_of_getElem? hy) with h | h
                  · have := hpb y h; omega
                  · omega
                have hbu : Hid (bump P ((an : Int), (bn : Int)) = (P.set an (x + 1)).set bn (y + 1)) := by
                  unfold Hid bump
                  simp only [Int.toNat_natCast]
                  rw [hx]
                  simp only [Option.getD_some]
                  rw [hy]; rfl
                have t0 : decide ((an : Int) < 0) = false := decide_eq_false (by omega)
                have t1 : decide (bn ≤ an) = false := decide_eq_false (by omega)
                have t2 : decide (pl.length ≤ bn) = false := decide_eq_false (by omega)
                have HX := Lib.hid hx
                have HY := Lib.hid hy
                clear hab hx hy hpb
                go_wp2_with fail
                go_quiet (fail)
                have hby2 : Below U2.heap.size U2 (wr.drewN nq) := below_drewN0 hby _
                have hZ2 : Hid (RowI (wr.drewN nq) 3 U2.heap.size P) := hZ
                obtain ⟨e0', e1'⟩ := HE.out _ hby2
                clear hZ hby e0 e1
                generalize wr.drewN nq = W2 at *
                have cX := hZ2.out.cell HX.out
                have fX := hZ2.out.frozen an
                have aI : (an : Int) < (pl.length : Int) := by omega
                go_upto_region 29 with fail
                clear cX fX e0' e1'
                have hby3 : Below U2.heap.size U2 (W2.setCell ⟨U2.heap.size, an, none⟩ (.int .i64 (x + 1))) := hby2.setCell (p := ⟨U2.heap.size, an, none⟩) (Nat.le_refl _) _
                have hZ3 := Lib.hid (hZ2.out.set an (x + 1))
                obtain ⟨e0', e1'⟩ := HE.out _ hby3
                generalize W2.setCell ⟨U2.heap.size, an, none⟩ (.int .i64 (x + 1)) = W3 at *
                have cY := hZ3.out.cell HY.out
                have fY := hZ3.out.frozen bn
                go_wp2_with fail
                go_roundw
                case rel =>
                  refine ⟨t + 1, by omega, by go_num, ?_, hby3.setCell (p := ⟨U2.heap.size, bn, none⟩) (Nat.le_refl _) _⟩
                  rw [hbump.out, hbu.out]
                  exact hZ3.out.set bn _
                case measure => simp [intOf]; omega
              · obtain rfl : t = el.length := by omega
                rw [List.take_length] at hZ
                obtain ⟨U3, rfl⟩ : ∃ W : World, W = wr := ⟨_, rfl⟩
                have hU3s := hby.size
                have hX3 := Lib.hid (fun (W : World) (h : Below U3.heap.size U3 W) => hXX.out W (hby.trans (h.mono hU3s)))
                have hY3 := Lib.hid (fun (W : World) (h : Below U3.heap.size U3 W) => hYY.out W (hby.trans (h.mono hU3s)))
                have hQ3 := Lib.hid (fun (W : World) (h : Below U3.heap.size U3 W) => hQ2.out W (hby.trans (h.mono hU3s)))
                have hF3 := Lib.hid (fun (W : World) (h : Below U3.heap.size U3 W) => hF2.out W (hby.trans (h.mono hU3s)))
                have hZl := hZ.out.lt
                have hZ3 := Lib.hid (fun (W : World) (h : Below U3.heap.size U3 W) => hZ.out.below h hZl)
                have hrp3 := hrp2.below hby
                have hr3 := hr2.below hby
                have hwU3 : Below w.heap.size w U3 := hwU.trans (hby.mono hwU.size)
                have hRB := (right_iff _ _).2 hR
                have HNr := fun v W h => refNear_any k v es A c W h hc (by omega)
                simp only [nearB_right hRB] at HNr
                have hlen := hgp.len
                clear hXX hYY hQ2 hF2 hZ hrp2 hrx2 hr2 hwU
                obtain ⟨q0, q1, _⟩ := blk2 (hQ3.out U3 (Below.refl _ _))
                go_upto_region 31 with fail
                clear q0 q1
                go_loopw [19] (fun i wx => ∃ (v : Nat), v ≤ k ∧ i = .int .i64 v ∧ Below U3.heap.size U3 wx) (fun i _ => k - (intOf i).toNat)
                case atStart => exact ⟨0, Nat.zero_le _, rfl, Below.refl _ _⟩
                case round =>
                  obtain ⟨v, hv, rfl, hbz⟩ := hrel
                  obtain ⟨q0, q1, _⟩ := blk2 (hQ3.out wr hbz)
                  by_cases hvk : v < k
                  · have vI : (v : Int) < (k : Int) := by omega
                    have hcn := hgp.count v hvk
                    obtain ⟨fv, hfv⟩ : ∃ x, fl[v]? = some x := ⟨fl[v]'(by omega), by simp⟩
                    have hfb := hFx fv (List.mem_of_getElem? hfv)
                    have hnl := nearL_length es (v : Int)
                    rw [hfv] at hcn
                    simp only [Option.getD_some] at hcn
                    have hCX := cntL_get k pl false v hvk
                    have hCY := cntL_get k pl true v hvk
                    rw [hcn.1] at hCX
                    rw [hcn.2] at hCY
                    have HCX := Lib.hid hCX
                    have HCY := Lib.hid hCY
                    have HFV := Lib.hid hfv
                    have HNv := fun W h => HNr v W h
                    clear hcn hCX hCY hfv
                    generalize nearL es (v : Int) = ln at *
                    go_upto_region 34 with (first
                      | (go_at_call 39; go_loud (refine (HNv _ (hr3.below hbz)).mono ?_; rintro e wx ⟨A5, c5, rfl, hc5, hr5, hbx5⟩; have hbz' : Below U3.heap.size U3 wx := hbz.trans (hbx5.mono hbz.size))))
                    have hwr : IntKind.i64.wrap ((ln.length : Int) - fv) = (ln.length : Int) - fv := by rw [IntKind.wrap_i64]; omega
                    have cX := (hX3.out _ hbz').cell HCX.out
                    have cY := (hY3.out _ hbz').cell HCY.out
                    have cF := (hF3.out _ hbz').cell HFV.out
                    go_region_held3 (fun w' => w'.cell? ⟨X, v, none⟩ = some (.int .i64 (ln.length : Int)) ∧ w'.cell? ⟨Y, v, none⟩ = some (.int .i64 (max 0 ((ln.length : Int) - fv))) ∧ w'.cell? ⟨w1.heap.size + 1, v, none⟩ = some (.int .i64 fv)) (first | exact ⟨cX, cY, cF⟩) (fail)
                    go_wp2_with fail
                    go_roundw
                    case rel => exact ⟨v + 1, by omega, by go_num, by (repeat (first | with_reducible exact Below.refl _ _ | with_reducible assumption | with_reducible refine below_drewN0 ?_ _ | with_reducible refine Below.drew ?_ | with_reducible refine Below.alloc ?_ ?_ _ | with_reducible refine Below.setCell ?_ ?_ _ | go_size | exact Below.size (by assumption)))⟩
                    case measure => simp [intOf]; omega
                  · obtain rfl : v = k := by omega
                    go_upto_region 37 with fail
                    clear q0 q1
                    go_loopw [21] (fun i wx => ∃ (j : Nat), j ≤ pl.length ∧ i = .int .i64 j ∧ Below U3.heap.size U3 wx) (fun i _ => pl.length - (intOf i).toNat)
                    case atStart => exact ⟨0, Nat.zero_le _, rfl, hbz⟩
                    case round =>
                      clear hbz
                      obtain ⟨j, hj, rfl, hbz⟩ := hrel
                      by_cases hjl : j < pl.length
                      · have jI : (j : Int) < (pl.length : Int) := by omega
                        obtain ⟨⟨xv, xn, xc⟩, hx⟩ : ∃ e, pl[j]? = some e := ⟨pl[j], by simp [hjl]⟩
                        obtain ⟨b, o, rfl, hbl, e0, e1, e2⟩ := (hrp3.below hbz).pl' j _ hx
                        obtain ⟨u, hu, hxu, hnn⟩ := hgp.place j _ hx
                        dsimp only at hxu hnn e0 e1 e2
                        subst hxu
                        have uI : (u : Int) < (v : Int) := by omega
                        have sF := hgp.small false u
                        have sT := hgp.small true u
                        have cX := (hX3.out wr hbz).cell (cntL_get v pl false u hu)
                        have cY := (hY3.out wr hbz).cell (cntL_get v pl true u hu)
                        have cZ := (hZ3.out wr hbz).cell hnn
                        clear hx hnn
                        generalize cntV pl false u = pF at *
                        generalize cntV pl true u = pT at *
                        cases xc
                        · simp only [Bool.false_eq_true, if_false] at cZ
                          go_wp2_with fail
                          go_roundw
                          case rel => exact ⟨j + 1, by omega, by go_num, hbz⟩
                          case measure => simp [intOf]; omega
                        · simp only [if_true] at cZ
                          go_wp2_with fail
                          go_roundw
                          case rel => exact ⟨j + 1, by omega, by go_num, hbz⟩
                          case measure => simp [intOf]; omega
                      · obtain rfl : j = pl.length := by omega
                        go_wp2_with fail
                        go_ret
                        exact ⟨rfl, hwU3.trans (hbz.mono hwU3.size)⟩
end Go.Proofs.Ytglhdoibglafbaa
