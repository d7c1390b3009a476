/- Walks of help's Own at numbers. -/
import Derived.Test.YtgddfmfiiodgbaaU05
import Derived.Test.YtgddfmfiiodgbaaU43
import Derived.Test.YtgddfmfiiodgbaaU36
import Derived.Test.YtgddfmfiiodgbaaU37
namespace Go.Proofs.Ytgddfmfiiodgbaa
open Go Go.RowKit
set_option maxRecDepth 100000
set_option linter.unusedVariables false
set_option linter.unusedSimpArgs false

set_option maxHeartbeats 2000000 in
theorem ownI (l : List Int) (f : Int) (A : Option Addr) (c : Nat) (w : World) (hr : Reads w A (icells l)) (hc : l.length ≤ c) (hm : l.length ≤ 1000000) :
    Calls Try.prog 38 #[.slice A l.length c, .int .i64 f] w (OwnP 3 icells l f w) := by
  obtain ⟨i0, hi0, hz0, hs0, hb0⟩ := info_parts (EI_int).hinfo
  have hmk : ∀ w0 : World, (Instr.makeSlice 22 (.int .i64 0) (.int .i64 ((l.length : Int) + 3))).run Try.prog w0 = .ok (.slice (some ⟨w0.heap.size, 0, none⟩) 0 (l.length + 3)) (w0.alloc (.cells (icells (List.replicate (l.length + 3) 0)).toArray 3)) := fun w0 => by
    have h := run_make (P := Try.prog) w0 22 3 i0 (.int .i64 0) (EI_int).ht hi0 hz0 .i64 .i64 0 ((l.length : Int) + 3) (by omega) (by omega) (by rw [hb0]; omega) (by omega)
    rw [h, hs0, show ((l.length : Int) + 3).toNat = l.length + 3 by omega, ← made_zero, Nat.mul_one]
    try rfl
  have HMK := Lib.hid hmk
  clear hmk
  go_enter Try.func38, Try.ntmps38
  have hmk := HMK.out
  go_upto_region 2 with fail
  clear hmk HMK hi0 hz0 hs0 hb0
  generalize hW : w.alloc (Obj.cells (icells (List.replicate (l.length + 3) 0)).toArray 3) = W
  have hbW : Below w.heap.size w W := by rw [← hW]; (repeat (first | with_reducible exact Below.refl _ _ | with_reducible assumption | with_reducible refine below_drewN0 ?_ _ | with_reducible refine Below.drew ?_ | with_reducible refine Below.alloc ?_ ?_ _ | with_reducible refine Below.setCell ?_ ?_ _ | go_size | exact Below.size (by assumption)))
  have hG : W.heap[w.heap.size]? = some (.cells (icells (List.replicate (l.length + 3) 0)).toArray 3 (0, 0)) := by
    rw [← hW]
    exact heap_alloc_new w _
  have hrW := hr.below hbW
  have HG := Lib.hid hG
  clear hW hG hr
  have HLL := Lib.hid (show (icells l).length = l.length * 1 by simp [icells_length])
  have i1 : (l.length : Int) + 3 ≤ ((l.length + 3 : Nat) : Int) := by omega
  have i2 : (0 : Int) ≤ (l.length : Int) + 3 := by omega
  have i3 : ((l.length : Int) + 3).toNat = l.length + 3 := by omega
  go_upto_region 4 with (first
    | (at_builtin; go_loud (
       refine wpList_room EI_int rfl (.tmp 12) (.tmp 13) rfl w.heap.size (icells (List.replicate (l.length + 3) 0)) 0 (l.length + 3) rfl HG.out ?_ A l.length c (icells l) rfl hrW HLL.out (icells_one l) ?_ ?_
       · simp [icells_length]
       · omega
       intro w2 hG2 hg2
       have hb2 : Below w.heap.size w w2 := hbW.grown hg2 hbW.size (fun k hk => by cases hk; omega)
       have HG2 : Hid (w2.heap[w.heap.size]? = some (.cells (icells (l ++ (List.replicate 0 f ++ List.replicate (3 - 0) 0))).toArray 3 (0, 0))) := by
         unfold Hid
         rw [hG2]
         simp only [List.take_zero, List.nil_append, Nat.zero_add, List.replicate_zero, Nat.mul_one]
         rw [icells_drop, List.drop_replicate, show l.length + 3 - l.length = 3 by omega, icells_append]
       clear hG2)))
  go_wp2_with fail
  clear hrW hbW
  go_loopw [7] (fun i wr => ∃ j : Nat, j ≤ 3 ∧ i = .int .i64 ((l.length + j : Nat) : Int) ∧ Hid (wr.heap[w.heap.size]? = some (.cells (icells (l ++ (List.replicate j f ++ List.replicate (3 - j) 0))).toArray 3 (0, 0))) ∧ Below w.heap.size w wr) (fun i _ => l.length + 3 - (intOf i).toNat)
  case atStart => exact ⟨0, by omega, rfl, HG2, hb2⟩
  case round =>
    clear HG2 hb2 hg2
    obtain ⟨j, hj, rfl, hG, hb⟩ := hrel
    by_cases hlt : j < 3
    · have hlG := heap_lt0 hG.out
      have hz0 := blkf0 hG.out (l.length + j)
      have hy0 := blkc0 hG.out (l.length + j) (.int .i64 0) (by rw [List.getElem?_toArray]; exact icells_get _ _ _ (fill_get l f 0 j hlt))
      have j1 : ((l.length + j : Nat) : Int) < ((l.length + 3 : Nat) : Int) := by omega
      have j2 : l.length + j < l.length + 3 := by omega
      go_wp2_with fail
      go_roundw
      case rel =>
        refine ⟨j + 1, by omega, by go_num, ?_, by (repeat (first | with_reducible exact Below.refl _ _ | with_reducible assumption | with_reducible refine below_drewN0 ?_ _ | with_reducible refine Below.drew ?_ | with_reducible refine Below.alloc ?_ ?_ _ | with_reducible refine Below.setCell ?_ ?_ _ | go_size | exact Below.size (by assumption)))⟩
        have h9 := blk_put hG.out (l.length + j) (.int .i64 f)
        rw [icells_set, fill_step _ _ _ _ hlt] at h9
        exact h9
      case measure => simp [intOf]; omega
    · obtain rfl : j = 3 := by omega
      go_wp2_with fail
      go_ret
      refine ⟨_, rfl, Nat.le_refl _, ?_, hb⟩
      have h9 := hG.out
      simpa using h9

set_option maxHeartbeats 2000000 in
theorem keptI (l : List Int) (f : Int) (g : Nat) (A : Option Addr) (c : Nat) (w : World) (hr : Reads w A (icells l)) (hc : l.length ≤ c) (hm : l.length ≤ 1000000) (hG : w.heap[g]? = some (.cells (icells (l ++ List.replicate 3 f)).toArray 3 (0, 0))) :
    Calls Try.prog 40 #[.slice (some ⟨g, 0, none⟩) l.length (l.length + 3), .slice A l.length c, .int .i64 f] w fun e w' => e = .returned (.bool true) ∧ Below w.heap.size w w' := by
  have hrg : Reads w (some ⟨g, 0, none⟩) (icells l) := by
    have := reads_blk hG
    rw [icells_append] at this
    exact this.front
  have hlg := heap_lt0 hG
  have HP := fun W hR1 hR2 => sameI_plain l l (some ⟨g, 0, none⟩) A (l.length + 3) c W hR1 hR2 (by omega) hc (by omega) (by omega)
  simp only [decide_true] at HP
  have HG := Lib.hid hG
  clear hG
  have i0 : decide (((l.length + 3 : Nat) : Int) < (l.length : Int) + 3) = false := decide_eq_false (by omega)
  have i1 : (l.length : Int) + 3 ≤ ((l.length + 3 : Nat) : Int) := by omega
  have i2 : (0 : Int) ≤ (l.length : Int) + 3 := by omega
  have i3 : ((l.length : Int) + 3).toNat = l.length + 3 := by omega
  go_enter Try.func40, Try.ntmps40
  go_wp2_with (first
    | (go_at_call 42; go_loud (refine (HP _ (hrg.below ?_) (hr.below ?_)).mono ?_; (repeat (first | with_reducible exact Below.refl _ _ | with_reducible assumption | with_reducible refine below_drewN0 ?_ _ | with_reducible refine Below.drew ?_ | with_reducible refine Below.alloc ?_ ?_ _ | with_reducible refine Below.setCell ?_ ?_ _ | go_size | exact Below.size (by assumption))); (repeat (first | with_reducible exact Below.refl _ _ | with_reducible assumption | with_reducible refine below_drewN0 ?_ _ | with_reducible refine Below.drew ?_ | with_reducible refine Below.alloc ?_ ?_ _ | with_reducible refine Below.setCell ?_ ?_ _ | go_size | exact Below.size (by assumption))); rintro e w1 ⟨rfl, hb1⟩; have hG1 := Lib.hid ((hb1.block g hlg).trans HG.out); have hbw : Below w.heap.size w w1 := hb1; clear hb1)))
  go_loopw [8] (fun i wr => ∃ j : Nat, j ≤ 3 ∧ i = .int .i64 ((l.length + j : Nat) : Int) ∧ Hid (Below w1.heap.size w1 wr)) (fun i _ => l.length + 3 - (intOf i).toNat)
  case atStart => exact ⟨0, by omega, rfl, Below.refl _ _⟩
  case round =>
    obtain ⟨j, hj, rfl, hb⟩ := hrel
    have hG' := (hb.out.block g (heap_lt0 hG1.out)).trans hG1.out
    by_cases hlt : j < 3
    · have hy0 := blkc0 hG' (l.length + j) (.int .i64 f) (by rw [List.getElem?_toArray]; exact icells_get _ _ _ (kept_get l f j hlt))
      have j1 : ((l.length + j : Nat) : Int) < ((l.length + 3 : Nat) : Int) := by omega
      have j2 : l.length + j < l.length + 3 := by omega
      clear hG'
      go_wp2_with fail
      (try (go_quiet (fail)))
      (try (go_wp2_with fail))
      go_roundw
      case rel => exact ⟨j + 1, by omega, by go_num, hb.out.trans (by (repeat (first | with_reducible exact Below.refl _ _ | with_reducible assumption | with_reducible refine below_drewN0 ?_ _ | with_reducible refine Below.drew ?_ | with_reducible refine Below.alloc ?_ ?_ _ | with_reducible refine Below.setCell ?_ ?_ _ | go_size | exact Below.size (by assumption))))⟩
      case measure => simp [intOf]; omega
    · obtain rfl : j = 3 := by omega
      clear hG'
      go_wp2_with fail
      go_ret
      exact ⟨rfl, hbw.trans (hb.out.mono hbw.size)⟩
end Go.Proofs.Ytgddfmfiiodgbaa

/- SinglePaths, walked. -/
namespace Go.Proofs.Ytgddfmfiiodgbaa
open Go Go.RowKit
set_option maxRecDepth 100000
set_option linter.unusedVariables false
set_option linter.unusedSimpArgs false

/-- What SinglePaths holds in memory. -/
structure SPW (w : World) (n : Nat) (es : List (Int × Int)) (A : Option Addr) (c b g g2 : Nat) (M : Nat → Option Nat) (wc : World) : Prop where
  box : Box2 w b (.int .i64 (n : Int)) (.slice A es.length c) 25 wc
  rd : Reads wc A (pcells es)
  row : RowI wc 3 g (mateL n M)
  own : wc.heap[g2]? = some (.cells (icells (mateL n M ++ List.replicate 3 (71 : Int))).toArray 3 (0, 0))
  la : ∀ q, A = some q → q.block < wc.heap.size
section
variable {w wc wd : World} {n : Nat} {es : List (Int × Int)} {A : Option Addr} {c b g g2 : Nat} {M : Nat → Option Nat}
theorem SPW.go (h : SPW w n es A c b g g2 M wc) (hb : Below wc.heap.size wc wd) : SPW w n es A c b g g2 M wd :=
  ⟨h.box.go hb, h.rd.below hb, h.row.below hb h.row.lt, (hb.block _ (heap_lt0 h.own)).trans h.own, fun q hq => Nat.lt_of_lt_of_le (h.la q hq) hb.size⟩
theorem SPW.mates (h : SPW w n es A c b g g2 M wc) : Reads wc (some ⟨g2, 0, none⟩) (icells (mateL n M)) := by
  have := reads_blk h.own
  rw [icells_append] at this
  exact this.front
end

def SPPost (w : World) (n : Nat) (es : List (Int × Int)) (A : Option Addr) (c b g g2 : Nat) (M : Nat → Option Nat) (e : Ending) (w' : World) : Prop :=
  ∃ pA pl pc lA ll lc, e = .returned (.tuple #[.slice pA pl pc, .slice lA ll lc, .int .i64 0]) ∧ SPW w n es A c b g g2 M w' ∧
    Hid ((∃ p : List Nat, pl = p.length ∧ pl ≤ pc ∧ AugW (adjE es) M p ∧ (∀ x ∈ p, x < n) ∧ Reads w' pA (icells (natI p)) ∧ ll = 0) ∨
      (pl = 0 ∧ ll = n ∧ n ≤ lc ∧ ∃ S D, FInv n (adjE es) M S D ∧ Closed (adjE es) M S ∧ Reads w' lA (icells (labL n S))))

set_option maxHeartbeats 4000000 in
theorem spaths_any (n0 : Int) (ends picks : List Int) (Ae Ap : Option Addr) (ce cp : Nat) (w : World) (hn1 : -9223372036854775808 ≤ n0) (hn2 : n0 ≤ 9223372036854775807)
    (hre : Reads w Ae (icells ends)) (hce : ends.length ≤ ce) (hme : ends.length ≤ 4611686018427387903) (hrp : Reads w Ap (icells picks)) (hcp : picks.length ≤ cp) (hmp : picks.length ≤ 4611686018427387903) :
    Calls Try.prog 4 #[.int .i64 n0, .slice Ae ends.length ce, .slice Ap picks.length cp] w fun e w' => e = .returned (.bool true) ∧ Below w.heap.size w w' := by
  have HSM := small_own n0 8 16 ends Ae ce w (by omega) (by omega) (by omega) (by omega) hn1 hn2 hre hce hme
  have HRP := Lib.hid hrp
  clear hn1 hn2 hre hrp
  go_enter Try.func4, Try.ntmps4
  go_upto_region 2 with (go_at_call 31; (refine HSM.mono ?_; rintro e w1 ⟨n1, es, A, c, rfl, hP, hn, hes, hc, how, hb1⟩))
  obtain ⟨n, rfl⟩ : ∃ n : Nat, n1 = (n : Int) := ⟨n1.toNat, by have := hP.n0; omega⟩
  have hla : ∀ q, A = some q → q.block < w1.heap.size := fun q hq => (own_lt0 how q.block (by rw [hq]; rfl)).2
  have hX1 := Box2.new hb1 (.int .i64 (n : Int)) (.slice A es.length c) 25
  have hrd1 := (own_reads1 how).1.below ((Below.refl w1.heap.size w1).alloc (Nat.le_refl _) (.cells #[Value.int IntKind.i64 (n : Int), Value.slice A es.length c] 25))
  have hla1 : ∀ q, A = some q → q.block < (w1.alloc (.cells #[Value.int IntKind.i64 (n : Int), Value.slice A es.length c] 25)).heap.size := fun q hq => by rw [World.size_alloc]; have := hla q hq; omega
  generalize w1.alloc (.cells #[Value.int IntKind.i64 (n : Int), Value.slice A es.length c] 25) = w2 at hX1 hrd1 hla1 ⊢
  obtain ⟨b, hb⟩ : ∃ b, b = w1.heap.size := ⟨_, rfl⟩
  rw [← hb] at hX1 ⊢
  have c0 := hX1.c0
  have c1 := hX1.c1
  have HMA := mates_any hP A Ap c cp picks w2 hrd1 hc (HRP.out.below hX1.below) hcp hmp
  have HP := Lib.hid hP
  have hR := Lib.hid ((right_iff _ _).2 hP)
  clear how hb1 hP HSM hla hb
  go_upto_region 3 with (go_at_call 37; (refine HMA.mono ?_; rintro e w3 ⟨M, g, rfl, hM, hRow, hlo, hb3⟩))
  have HO := (show Calls Try.prog 38 #[.slice (some ⟨g, 0, none⟩) n n, .int .i64 71] w3 fun e w' => ∃ g2, e = .returned (.slice (some ⟨g2, 0, none⟩) n (n + 3)) ∧ w'.heap[g2]? = some (.cells (icells (mateL n M ++ List.replicate 3 (71 : Int))).toArray 3 (0, 0)) ∧ Below w3.heap.size w3 w' from by
    have h := ownI (mateL n M) 71 (some ⟨g, 0, none⟩) n w3 hRow.reads (by rw [mateL_length]; exact Nat.le_refl _) (by rw [mateL_length]; omega)
    rw [mateL_length] at h
    refine h.mono ?_
    rintro e w' ⟨g2, he, _, hG, hb⟩
    rw [mateL_length] at he
    exact ⟨g2, he, hG, hb⟩)
  have hX3 := hX1.go hb3
  have hrd3 := hrd1.below hb3
  have hla3 : ∀ q, A = some q → q.block < w3.heap.size := fun q hq => Nat.lt_of_lt_of_le (hla1 q hq) hb3.size
  have HM := Lib.hid hM
  clear hX1 hrd1 hla1 hb3 hlo hM c0 c1 HMA
  go_upto_region 4 with (go_at_call 38; (refine HO.mono ?_; rintro e w4 ⟨g2, rfl, hG, hb4⟩))
  have hS4 : SPW w n es A c b g g2 M w4 := ⟨hX3.go hb4, hrd3.below hb4, hRow.below hb4 hRow.lt, hG, fun q hq => Nat.lt_of_lt_of_le (hla3 q hq) hb4.size⟩
  have c0 := hS4.box.c0
  have c1 := hS4.box.c1
  have HPA := (show Calls Try.prog 39 #[.agg #[.int .i64 (n : Int), .slice A es.length c], .slice (some ⟨g2, 0, none⟩) n (n + 3)] w4 (SPPost w n es A c b g g2 M) from (path_yes n es A (some ⟨g2, 0, none⟩) c (n + 3) M w4 hS4.rd hc hR.out hS4.mates HM.out (by omega)).mono (by
    rintro e w' (⟨p, gp, cg, rfl, haug, hlt, ho, hbp⟩ | ⟨B, S, D, rfl, hFI, hCl, hRowL, _, hbp⟩)
    · obtain ⟨h1, h2, h3⟩ := own_reads1 ho
      exact ⟨_, _, _, _, _, _, rfl, hS4.go hbp, .inl ⟨p, natI_len p, h2, haug, hlt, h1, rfl⟩⟩
    · exact ⟨_, _, _, _, _, _, rfl, hS4.go hbp, .inr ⟨rfl, rfl, Nat.le_refl _, S, D, hFI, hCl, hRowL.reads⟩⟩))
  clear hX3 hrd3 hla3 hRow hG hb4 HO
  go_upto_region 5 with (go_at_call 39; (refine HPA.mono ?_; rintro e w5 ⟨pA, pl, pc, lA, ll, lc, rfl, hS5, hD⟩))
  have HS5 := Lib.hid hS5
  clear hS4 hS5 HPA c0 c1
  have HKE := fun (W : World) (h : SPW w n es A c b g g2 M W) => (show Calls Try.prog 40 #[.slice (some ⟨g2, 0, none⟩) n (n + 3), .slice (some ⟨g, 0, none⟩) n n, .int .i64 71] W fun e w' => e = .returned (.bool true) ∧ Below W.heap.size W w' from by
    have h1 := keptI (mateL n M) 71 g2 (some ⟨g, 0, none⟩) n W h.row.reads (by rw [mateL_length]; exact Nat.le_refl _) (by rw [mateL_length]; omega) h.own
    rwa [mateL_length] at h1)
  go_upto_region 7 with (first
    | (go_at_call 33; ((refine (awake11 _).mono ?_); rintro e w6 ⟨rfl, hb6⟩; have hS6 := HS5.out.go hb6))
    | (go_at_call 40; (refine (HKE _ hS6).mono ?_; rintro e w7 ⟨rfl, hb7⟩; have hS7 := hS6.go hb7)))
  have h57 : Below w5.heap.size w5 w7 := hb6.trans (hb7.mono hb6.size)
  have HS7 := Lib.hid hS7
  have x0 := hS7.box.c0
  have x1 := hS7.box.c1
  have HC : Hid (∀ W', Below w7.heap.size w7 W' → W'.cell? ⟨b, 0, none⟩ = some (.int .i64 (n : Int)) ∧ W'.cell? ⟨b, 1, none⟩ = some (.slice A es.length c)) := fun W' h => ⟨(hS7.go h).box.c0, (hS7.go h).box.c1⟩
  have HMS := fun (W : World) (h : Below w7.heap.size w7 W) => msize_any HM.out (some ⟨g, 0, none⟩) n W (HS7.out.go h).row.reads (by omega)
  have H57 := Lib.hid h57
  clear hS6 hS7 hb6 hb7 h57 HKE
  rcases hD.out with ⟨p, rfl, hpc, haug, hlt, hrp, rfl⟩ | ⟨rfl, rfl, hlc, S, D, hFI, hCl, hrl⟩
  · have HNB := fun (W : World) (h : Below w7.heap.size w7 W) => (show Calls Try.prog 36 #[.agg #[.int .i64 (n : Int), .slice A es.length c]] W fun e w' => ∃ k : Nat, e = .returned (.int .i64 (k : Int)) ∧ sizeM n M < k ∧ Below W.heap.size W w' from (number_any HP.out (by omega) A c W (HS7.out.go h).rd hc).mono (by
      rintro e w' ⟨k, rfl, hk, hb⟩
      refine ⟨k, rfl, ?_, hb⟩
      have h1 := haug.turn (right_gr HP.out) HM.out
      have h2 := size_turn (right_gr HP.out) HM.out haug
      have h3 := hk.2 _ h1.1 (fun _ _ _ => rfl)
      omega))
    have HAU := fun (W : World) (h : Below w7.heap.size w7 W) => augments_yes HP.out HM.out (haug.augI HM.out) hlt A (some ⟨g, 0, none⟩) pA c n pc W (HS7.out.go h).rd hc (HS7.out.go h).row.reads ((hrp.below H57.out).below h) hpc (by have := nodup_ltL (haug.augI HM.out).nd hlt; omega)
    clear hD haug hlt hrp
    go_cut [44] (fun t wc => t = .bool true ∧ Hid (Below w7.heap.size w7 wc))
    case first =>
      go_region_held3 (fun W' => W'.cell? ⟨b, 0, none⟩ = some (.int .i64 (n : Int)) ∧ W'.cell? ⟨b, 1, none⟩ = some (.slice A es.length c))
        (first | exact ⟨x0, x1⟩ | (refine HC.out _ ?_; (repeat (first | with_reducible exact Below.refl _ _ | with_reducible assumption | with_reducible refine below_drewN0 ?_ _ | with_reducible refine Below.drew ?_ | with_reducible refine Below.alloc ?_ ?_ _ | with_reducible refine Below.setCell ?_ ?_ _ | go_size | exact Below.size (by assumption))); done))
        (first
          | (go_at_call 35; refine (HMS _ ?_).mono ?_; (repeat (first | with_reducible exact Below.refl _ _ | with_reducible assumption | with_reducible refine below_drewN0 ?_ _ | with_reducible refine Below.drew ?_ | with_reducible refine Below.alloc ?_ ?_ _ | with_reducible refine Below.setCell ?_ ?_ _ | go_size | exact Below.size (by assumption))); rintro e w8 ⟨rfl, hb8'⟩; have hb8 := below_on (a := w7) (by (repeat (first | with_reducible exact Below.refl _ _ | with_reducible assumption | with_reducible refine below_drewN0 ?_ _ | with_reducible refine Below.drew ?_ | with_reducible refine Below.alloc ?_ ?_ _ | with_reducible refine Below.setCell ?_ ?_ _ | go_size | exact Below.size (by assumption)))) hb8')
          | (go_at_call 36; refine (HNB _ ?_).mono ?_; (repeat (first | with_reducible exact Below.refl _ _ | with_reducible assumption | with_reducible refine below_drewN0 ?_ _ | with_reducible refine Below.drew ?_ | with_reducible refine Below.alloc ?_ ?_ _ | with_reducible refine Below.setCell ?_ ?_ _ | go_size | exact Below.size (by assumption))); rintro e w9 ⟨k, rfl, hdk, hb9'⟩; have hb9 := below_on (a := w7) (by (repeat (first | with_reducible exact Below.refl _ _ | with_reducible assumption | with_reducible refine below_drewN0 ?_ _ | with_reducible refine Below.drew ?_ | with_reducible refine Below.alloc ?_ ?_ _ | with_reducible refine Below.setCell ?_ ?_ _ | go_size | exact Below.size (by assumption)))) hb9'))
      all_goals
        go_wp2_with fail
        go_meet
        exact ⟨by simp [hdk], Lib.hid (by (repeat (first | with_reducible exact Below.refl _ _ | with_reducible assumption | with_reducible refine below_drewN0 ?_ _ | with_reducible refine Below.drew ?_ | with_reducible refine Below.alloc ?_ ?_ _ | with_reducible refine Below.setCell ?_ ?_ _ | go_size | exact Below.size (by assumption))))⟩
    case rest =>
      obtain ⟨rfl, hbc⟩ := hcut
      obtain ⟨y0, y1⟩ := HC.out _ hbc.out
      clear x0 x1
      go_wp2_with (go_at_call 41; (refine (HAU _ hbc.out).mono ?_; rintro e w10 ⟨rfl, hb10⟩))
      go_ret
      exact ⟨by simp, HS7.out.box.below.trans ((hbc.out.trans (hb10.mono hbc.out.size)).mono HS7.out.box.below.size)⟩
  · have HNB := fun (W : World) (h : Below w7.heap.size w7 W) => number_of HP.out (by omega) A c W (HS7.out.go h).rd hc HM.out (hFI.closed_none (right_gr HP.out) HM.out hCl)
    have HLB := fun (W : World) (h : Below w7.heap.size w7 W) => rlabels_any HP.out HM.out hFI hCl A (some ⟨g, 0, none⟩) c ll W (HS7.out.go h).rd hc (HS7.out.go h).row.reads (HS7.out.go h).la (fun q hq => by cases hq; exact (HS7.out.go h).row.lt)
    have HPL := fun (W : World) (A1 A2 : Option Addr) (c1 c2 : Nat) (h1 : Reads W A1 (icells (labL ll S))) (h2 : Reads W A2 (icells (labL ll S))) (hc1 : ll ≤ c1) (hc2 : ll ≤ c2) => (show Calls Try.prog 42 #[.slice A1 ll c1, .slice A2 ll c2] W fun e w' => e = .returned (.bool true) ∧ Below W.heap.size W w' from by
      have h := sameI_plain (labL ll S) (labL ll S) A1 A2 c1 c2 W h1 h2 (by rw [labL_len]; exact hc1) (by rw [labL_len]; exact hc2) (by rw [labL_len]; omega) (by rw [labL_len]; omega)
      simp only [decide_true] at h
      rwa [labL_len] at h)
    have HRL := Lib.hid (hrl.below H57.out)
    clear hD hFI hCl hrl
    go_cut [44] (fun t wc => t = .bool false ∧ Hid (Below w7.heap.size w7 wc))
    case first =>
      go_region_held3 (fun W' => W'.cell? ⟨b, 0, none⟩ = some (.int .i64 (ll : Int)) ∧ W'.cell? ⟨b, 1, none⟩ = some (.slice A es.length c))
        (first | exact ⟨x0, x1⟩ | (refine HC.out _ ?_; (repeat (first | with_reducible exact Below.refl _ _ | with_reducible assumption | with_reducible refine below_drewN0 ?_ _ | with_reducible refine Below.drew ?_ | with_reducible refine Below.alloc ?_ ?_ _ | with_reducible refine Below.setCell ?_ ?_ _ | go_size | exact Below.size (by assumption))); done))
        (first
          | (go_at_call 35; refine (HMS _ ?_).mono ?_; (repeat (first | with_reducible exact Below.refl _ _ | with_reducible assumption | with_reducible refine below_drewN0 ?_ _ | with_reducible refine Below.drew ?_ | with_reducible refine Below.alloc ?_ ?_ _ | with_reducible refine Below.setCell ?_ ?_ _ | go_size | exact Below.size (by assumption))); rintro e w8 ⟨rfl, hb8'⟩; have hb8 := below_on (a := w7) (by (repeat (first | with_reducible exact Below.refl _ _ | with_reducible assumption | with_reducible refine below_drewN0 ?_ _ | with_reducible refine Below.drew ?_ | with_reducible refine Below.alloc ?_ ?_ _ | with_reducible refine Below.setCell ?_ ?_ _ | go_size | exact Below.size (by assumption)))) hb8')
          | (go_at_call 36; refine (HNB _ ?_).mono ?_; (repeat (first | with_reducible exact Below.refl _ _ | with_reducible assumption | with_reducible refine below_drewN0 ?_ _ | with_reducible refine Below.drew ?_ | with_reducible refine Below.alloc ?_ ?_ _ | with_reducible refine Below.setCell ?_ ?_ _ | go_size | exact Below.size (by assumption))); rintro e w9 ⟨rfl, hb9'⟩; have hb9 := below_on (a := w7) (by (repeat (first | with_reducible exact Below.refl _ _ | with_reducible assumption | with_reducible refine below_drewN0 ?_ _ | with_reducible refine Below.drew ?_ | with_reducible refine Below.alloc ?_ ?_ _ | with_reducible refine Below.setCell ?_ ?_ _ | go_size | exact Below.size (by assumption)))) hb9'))
      all_goals
        go_wp2_with fail
        go_meet
        exact ⟨by simp, Lib.hid (by (repeat (first | with_reducible exact Below.refl _ _ | with_reducible assumption | with_reducible refine below_drewN0 ?_ _ | with_reducible refine Below.drew ?_ | with_reducible refine Below.alloc ?_ ?_ _ | with_reducible refine Below.setCell ?_ ?_ _ | go_size | exact Below.size (by assumption))))⟩
    case rest =>
      obtain ⟨rfl, hbc⟩ := hcut
      obtain ⟨y0, y1⟩ := HC.out _ hbc.out
      clear x0 x1
      go_wp2_with (first
        | (go_at_call 43; (refine (HLB _ hbc.out).mono ?_; rintro e w10 ⟨v, rfl, ho10⟩; obtain ⟨lA2, lc2, rfl, hlc2, hlr2⟩ := ho10.slice; rw [labL_len] at hlc2 ⊢; have hb10 := ho10.2))
        | (go_at_call 42; (refine (HPL _ _ _ _ _ ((HRL.out.below hbc.out).below hb10) hlr2 hlc hlc2).mono ?_; rintro e w11 ⟨rfl, hb11⟩)))
      go_ret
      exact ⟨by simp, HS7.out.box.below.trans (((hbc.out.trans (hb10.mono hbc.out.size)).trans (hb11.mono (Nat.le_trans hbc.out.size hb10.size))).mono HS7.out.box.below.size)⟩
end Go.Proofs.Ytgddfmfiiodgbaa
