/- Walk of walk.Turn. -/
import Derived.Test.YtgddfmfiiodgbaaU07
import Derived.Test.YtgddfmfiiodgbaaU08
import Derived.Test.YtgddfmfiiodgbaaU09
import Derived.Test.YtgddfmfiiodgbaaU17
namespace Go.Proofs.Ytgddfmfiiodgbaa
open Go Go.RowKit
set_option maxRecDepth 100000
set_option linter.unusedVariables false
set_option linter.unusedSimpArgs false

theorem turnF_two : ∀ (k : Nat) (p : List Nat) (M : Nat → Option Nat) (a b : Nat), p[2 * k]? = some a → p[2 * k + 1]? = some b → turnF (p.take (2 * (k + 1))) M = upd (upd (turnF (p.take (2 * k)) M) a (some b)) b (some a) := by
  intro k
  induction k with
  | zero =>
    intro p M a b ha hb
    match p with
    | [] => simp at ha
    | [x] => simp at hb
    | x :: y :: l => simp at ha hb; subst ha hb; simp [turnF]
  | succ k ih =>
    intro p M a b ha hb
    match p with
    | [] => simp at ha
    | [x] => simp [Nat.mul_add] at hb
    | x :: y :: l =>
      have e1 : 2 * (k + 1 + 1) = 2 * (k + 1) + 1 + 1 := by omega
      have e2 : 2 * (k + 1) = 2 * k + 1 + 1 := by omega
      rw [e1]
      simp only [List.take_succ_cons]
      rw [e2] at ha hb ⊢
      simp only [List.getElem?_cons_succ, List.take_succ_cons, turnF] at ha hb ⊢
      rw [← e2]
      exact ih l _ a b ha hb
theorem mateL_set {n : Nat} (M : Nat → Option Nat) (v : Nat) (x : Option Nat) (y : Int) (hy : y = encO x) : (mateL n M).set v y = mateL n (upd M v x) := by
  subst hy
  apply List.ext_getElem?
  intro j
  rw [List.getElem?_set]
  by_cases hj : v = j
  · subst hj
    by_cases hn : v < n
    · simp [mateL, hn, upd]
    · simp [mateL, hn]
  · rw [if_neg hj]
    simp only [mateL, List.getElem?_map]
    by_cases hjn : j < n
    · simp [hjn, upd, Ne.symm hj]
    · simp [hjn]

set_option maxHeartbeats 1000000 in
theorem turn_any {n : Nat} {M : Nat → Option Nat} {g : Nat} {pA : Option Addr} {pc mc : Nat} {p : List Nat} {w : World} (hR : RowI w 3 g (mateL n M)) (hr : Reads w pA (icells (natI p))) (hA : ∀ q, pA = some q → q.block ≠ g) (hlt : ∀ x ∈ p, x < n) (hnd : p.Nodup) (he : p.length % 2 = 0) (hc : p.length ≤ pc) (hn : n ≤ mc) (hpl : p.length ≤ 1000000) :
    Calls Try.prog 136 #[.slice (some ⟨g, 0, none⟩) n mc, .slice pA p.length pc] w fun e w' => e = .returned (.tuple #[]) ∧ RowI w' 3 g (mateL n (turnF p M)) ∧ But w.heap.size g w w' := by
  have HR := Lib.hid hR
  have HP := Lib.hid hr
  have HA := Lib.hid hA
  have HLT := Lib.hid hlt
  have HND := Lib.hid hnd
  clear hR hr hA hlt hnd
  go_enter Try.func136, Try.ntmps136
  go_wp2_with fail
  go_loopw [4] (fun i wr => ∃ (k : Nat), i = .int .i64 ((2 * k + 1 : Nat) : Int) ∧ 2 * k ≤ p.length ∧ Hid (RowI wr 3 g (mateL n (turnF (p.take (2 * k)) M))) ∧ Hid (But w.heap.size g w wr)) (fun i _ => p.length + 1 - (intOf i).toNat)
  case atStart => exact ⟨0, rfl, Nat.zero_le _, HR, But.refl _ _ _⟩
  case round =>
    obtain ⟨k, rfl, hk, hR, hB⟩ := hrel
    clear HR
    by_cases hlt : 2 * k + 1 < p.length
    · obtain ⟨a, ha⟩ : ∃ a, p[2 * k]? = some a := ⟨p[2 * k], by simp⟩
      obtain ⟨b, hb⟩ : ∃ b, p[2 * k + 1]? = some b := ⟨p[2 * k + 1], by simp [hlt]⟩
      have han := HLT.out a (List.mem_of_getElem? ha)
      have hbn := HLT.out b (List.mem_of_getElem? hb)
      have hRd := HP.out.but hB.out HA.out
      obtain ⟨pb, po, hpA, _, ca⟩ := hRd.int (2 * k) (a : Int) (by simp [natI, ha])
      obtain ⟨pb', po', hpA', _, cb⟩ := hRd.int (2 * k + 1) (b : Int) (by simp [natI, hb])
      rw [hpA] at hpA'
      obtain ⟨rfl, rfl⟩ : pb' = pb ∧ po' = po := by simp at hpA'; omega
      have HPA := Lib.hid hpA
      rw [hpA]
      have HAB := Lib.hid (And.intro ha hb)
      obtain ⟨i, hi⟩ : ∃ i, i = 2 * k + 1 := ⟨_, rfl⟩
      obtain ⟨j, hj⟩ : ∃ j, j = 2 * k := ⟨_, rfl⟩
      rw [← hi] at cb ⊢
      rw [← hj] at ca
      have i1 : (0 : Int) ≤ (i : Int) := by omega
      have i2 : (i : Int) < (p.length : Int) := by omega
      have i3 : IntKind.i64.wrap ((i : Int) - 1) = (j : Int) := by rw [IntKind.wrap_i64]; omega
      have i4 : (0 : Int) ≤ (j : Int) := by omega
      have i5 : (j : Int) < (p.length : Int) := by omega
      have i6 : IntKind.i64.wrap ((i : Int) + 2) = ((2 * (k + 1) + 1 : Nat) : Int) := by rw [IntKind.wrap_i64]; omega
      have hab : a ≠ b := fun e => by
        subst e
        obtain ⟨_, e1⟩ := List.getElem?_eq_some_iff.1 ha
        obtain ⟨_, e2⟩ := List.getElem?_eq_some_iff.1 hb
        have := (List.getElem_inj HND.out).1 (e1.trans e2.symm)
        omega
      have a1 : (0 : Int) ≤ (a : Int) := by omega
      have a2 : (a : Int) < (n : Int) := by omega
      have b1 : (0 : Int) ≤ (b : Int) := by omega
      have b2 : (b : Int) < (n : Int) := by omega
      have cga := hR.out.cell (mateL_get _ han)
      have cgb := hR.out.cell (mateL_get _ hbn)
      have zga := hR.out.frozen a
      have zgb := hR.out.frozen b
      have hR2 := (hR.out.set a (b : Int)).set b (a : Int)
      rw [mateL_set _ a (some b) (b : Int) rfl, mateL_set _ b (some a) (a : Int) rfl, ← turnF_two k p M a b HAB.out.1 HAB.out.2] at hR2
      have HR2 := Lib.hid hR2
      have HI := Lib.hid hi
      have HJ := Lib.hid hj
      clear hi hj hR2 ha hb
      go_upto_region 3 with fail
      (refine wp_region_rws [0, 0, 0, 0, 0, 0, 1, 0, 0, 0, 0, 0, 0, 0, 0, 0, 0, 0, 0, 0, 0, 2, 2, 2] (by kernel_rfl) (by kernel_rfl) (by kernel_rfl) (fun _ _ d _ _ h => by cases d <;> exact h) ?_
       simp only [pickL, reduceIte, Nat.reduceEqDiff]
       repeat (go_big_quiet_step (fail))
       refine wpQuiet_nil ?_
       repeat (refine wpW_step ?_ ?_ ?_; rotate_left; focus (intro w1; go_simp; first | done | with_reducible rfl))
       refine wpW_nil ?_
       intro _ hw'
       obtain ⟨nq, hw''⟩ := hw'
       subst hw'')
      go_wp2_with fail
      go_roundw
      case rel =>
        refine ⟨k + 1, rfl, by have := HI.out; omega, ?_, ?_⟩
        · exact HR2.out
        · exact ((hB.out.drewN nq).set a _).set b _
      case measure => have := HI.out; simp [intOf]; omega
    · have i2 : (p.length : Int) ≤ ((2 * k + 1 : Nat) : Int) := by omega
      have hR' := hR.out
      rw [show p.take (2 * k) = p from List.take_of_length_le (by omega)] at hR'
      have HR := Lib.hid hR'
      clear hR hR'
      go_wp2_with fail
      go_end0
      exact ⟨rfl, HR.out, hB.out⟩
end Go.Proofs.Ytgddfmfiiodgbaa

/- Walk of a forest's Join. -/
namespace Go.Proofs.Ytgddfmfiiodgbaa
open Go Go.RowKit
set_option maxRecDepth 100000
set_option linter.unusedVariables false
set_option linter.unusedSimpArgs false

theorem shrink_f {w0 w : World} {n : Nat} {M : Nat → Option Nat} {L : FLay} {S S' : FoS} (hF : FW w0 w n M L S) {f : Nat} (hf : L.f = f) {v u b k : Nat} (hv : v < n) (hw : u < n) (hb : b < n) {ev : Nat → Int}
    (hev : ∀ m, ev m = wrap64 (wrap64 (wrap64 (S.even v + S.even u) + 1) - S.odd m)) (hR : ShRun M n v u b ev k (S.bs v) S S') (hl : S.wait.length + k ≤ 2 * n) :
    Calls Try.prog 175 #[.pointer (some ⟨f, 0, none⟩), .int .i64 (v : Int), .int .i64 (u : Int), .int .i64 (b : Int)] w (FPost w0 n M L S' (.tuple #[]) w) := by
  obtain rfl : ev = fun m => wrap64 (wrap64 (wrap64 (S.even v + S.even u) + 1) - S.odd m) := funext hev
  subst hf
  exact shrink_any hF hv hw hb hR hl

theorem meet_f {w0 w : World} {n : Nat} {M : Nat → Option Nat} {L : FLay} {S : FoS} (hF : FW w0 w n M L S) {a b c : Nat} {X Y : List Nat} (hP : MeetP n M S c (a :: X) (b :: Y)) (hT : S.turn < S.looks) :
    Calls Try.prog 174 #[.pointer (some ⟨L.f, 0, none⟩), .int .i64 (a : Int), .int .i64 (b : Int)] w (FPost w0 n M L { S with turn := S.turn + 1 } (.int .i64 (c : Int)) w) := meet_any hF hP hT

set_option maxHeartbeats 2000000 in
theorem join_none {w0 w : World} {n : Nat} {M : Nat → Option Nat} {L : FLay} {S S2 S3 : FoS} (hF : FW w0 w n M L S) {v u c : Nat} {X Y : List Nat} (hv : v < n) (hw : u < n) (hc : c < n) (hr : S.root v = S.root u)
    (hP : MeetP n M S c (S.bs v :: X) (S.bs u :: Y)) (hT : S.turn < S.looks) {k k' : Nat} {ev ev' : Nat → Int}
    (hev : ∀ m, ev m = wrap64 (wrap64 (wrap64 (S.even v + S.even u) + 1) - S.odd m)) (hR1 : ShRun M n v u c ev k (S.bs v) { S with turn := S.turn + 1 } S2) (hl1 : S.wait.length + k ≤ 2 * n)
    (hev' : ∀ m, ev' m = wrap64 (wrap64 (wrap64 (S2.even u + S2.even v) + 1) - S2.odd m)) (hR2 : ShRun M n u v c ev' k' (S2.bs u) S2 S3) (hl2 : S2.wait.length + k' ≤ 2 * n) :
    Calls Try.prog 142 #[.pointer (some ⟨L.f, 0, none⟩), .int .i64 (v : Int), .int .i64 (u : Int)] w (FPost w0 n M L S3 (.slice none 0 0) w) := by
  have f7 := hF.fc 7 _ rfl
  have c7 := hF.c7 hv
  have c7' := hF.c7 hw
  rw [← hr] at c7'
  dsimp only [FLay.rv] at f7
  obtain ⟨rt, hrt⟩ : ∃ rt, rt = encO (S.root v) := ⟨_, rfl⟩
  rw [← hrt] at c7 c7'
  clear hrt hr
  have i1 : (0 : Int) ≤ (v : Int) := by omega
  have i2 : (v : Int) < (n : Int) := by omega
  have i3 : (0 : Int) ≤ (u : Int) := by omega
  have i4 : (u : Int) < (n : Int) := by omega
  have HV := fun (W : World) (h : FW w0 W n M L S) => base_any h hv
  have HU := fun (W : World) (h : FW w0 W n M L S) => base_any h hw
  have HME := fun (W : World) (h : FW w0 W n M L S) => meet_f h hP hT
  have HS1 := fun (L1 : FLay) (W : World) (h : FW w0 W n M L1 { S with turn := S.turn + 1 }) (hf : L1.f = L.f) => shrink_f h hf hv hw hc hev hR1 hl1
  have HS2 := fun (L1 : FLay) (W : World) (h : FW w0 W n M L1 S2) (hf : L1.f = L.f) => shrink_f h hf hw hv hc hev' hR2 hl2
  generalize S.bs v = bv at HV HME
  generalize S.bs u = bu at HU HME
  clear hev hev' hR1 hR2 hP hl1 hl2
  go_enter Try.func142, Try.ntmps142
  go_wp2_with fail
  go_quiet (fail)
  go_wp2_with (first
    | (go_at_call 138; ((with_reducible refine (HV _ (hF.drewN _)).mono ?_); rintro e w2 ⟨rfl, hF2, hT2⟩))
    | (go_at_call 138; ((with_reducible refine (HU _ hF2).mono ?_); rintro e w3 ⟨rfl, hF3, hT3⟩))
    | (go_at_call 174; ((with_reducible refine (HME _ hF3).mono ?_); rintro e w4 ⟨L4, rfl, hF4, hT4⟩; have hf4 := hT4.f))
    | (go_at_call 175; ((with_reducible refine (HS1 _ _ hF4 hf4).mono ?_); rintro e w5 ⟨L5, rfl, hF5, hT5⟩; have hf5 := hT5.f.trans hf4))
    | (go_at_call 175; ((with_reducible refine (HS2 _ _ hF5 hf5).mono ?_); rintro e w6 ⟨L6, rfl, hF6, hT6⟩)))
  go_ret
  exact ⟨L6, rfl, hF6, ((((((FStep.refl _ _).drewN _).trans hT2).trans hT3).trans hT4).trans hT5).trans hT6⟩

/-- A path is told. -/
def JoinPost (w0 : World) (n : Nat) (M : Nat → Option Nat) (L : FLay) (S' : FoS) (l : List Nat) (w : World) (e : Ending) (w' : World) : Prop :=
  ∃ g c, e = .returned (.slice (some ⟨g, 0, none⟩) (natI l).length c) ∧ w'.ownsRow w.heap.size 3 1 (.slice (some ⟨g, 0, none⟩) (natI l).length c) (natI l).length (icells (natI l)) ∧ FW w0 w' n M L S' ∧ FStep L L w w'

theorem FW.grow' {w0 w w' : World} {n : Nat} {M : Nat → Option Nat} {L : FLay} {S : FoS} (h : FW w0 w n M L S) {r : Option Nat} (hg : w.grownBy w' r) {B : Nat} (hB : ∀ g, r = some g → B ≤ g) (ho : ∀ k, L.own k → k < B) (hb : w0.heap.size ≤ B) : FW w0 w' n M L S := by
  obtain ⟨u, mk, hM⟩ := h
  refine ⟨u, mk, hM.keep (fun k hk => hg.block k (hM.own_lt hk) (fun e => ?_)) (Below.grown hM.below hg hM.below.size (fun k hk => Nat.le_trans hb (hB k hk)))⟩
  have h1 := hB k e.symm
  have h2 := ho k hk
  omega

set_option maxHeartbeats 2000000 in
theorem join_path {w0 w : World} {n : Nat} {M : Nat → Option Nat} {L : FLay} {S : FoS} (hF : FW w0 w n M L S) {v u rv ru : Nat} {pv pu : List Nat} (hv : v < n) (hw : u < n) (hrv : S.root v = some rv) (hru : S.root u = some ru) (hne : rv ≠ ru)
    (hWv : Way M S v rv pv) (hWu : Way M S u ru pu) (hlv : pv.length ≤ 1000000) (hlu : pu.length ≤ 1000000) :
    Calls Try.prog 142 #[.pointer (some ⟨L.f, 0, none⟩), .int .i64 (v : Int), .int .i64 (u : Int)] w (JoinPost w0 n M L { S with gone := upd (upd S.gone rv true) ru true } (pv.reverse ++ pu) w) := by
  have hrvn := hF.bd.root v rv hv hrv
  have hrun := hF.bd.root u ru hw hru
  have f7 := hF.fc 7 _ rfl
  have c7 := hF.c7 hv
  have c7' := hF.c7 hw
  rw [hrv] at c7
  rw [hru] at c7'
  simp only [encO] at c7 c7'
  dsimp only [FLay.rv] at f7
  have i1 : (0 : Int) ≤ (v : Int) := by omega
  have i2 : (v : Int) < (n : Int) := by omega
  have i3 : (0 : Int) ≤ (u : Int) := by omega
  have i4 : (u : Int) < (n : Int) := by omega
  have i5 : ((rv : Int) != (ru : Int)) = true := by rw [bne_iff_ne]; omega
  have HWV := fun (W : World) (h : FW w0 W n M L S) => way_any pv.length W v rv pv h hv hrvn hWv (Nat.le_refl _) (by omega)
  have HWU := fun (W : World) (h : FW w0 W n M L S) => way_any pu.length W u ru pu h hw hrun hWu (Nat.le_refl _) (by omega)
  have hnl : (natI pv).length ≤ 1000000 := by rw [natI_length]; exact hlv
  have hnl2 : (natI pu).length ≤ 1000000 := by rw [natI_length]; exact hlu
  have HRV := Lib.hid hrv
  have HRU := Lib.hid hru
  have hne' : ru ≠ rv := fun e => hne e.symm
  have hBO : ∀ k, L.own k → k < w.heap.size := fun k hk => by obtain ⟨uu, mk, hM⟩ := hF; exact hM.own_lt hk
  have hB0 : w0.heap.size ≤ w.heap.size := by obtain ⟨uu, mk, hM⟩ := hF; exact hM.below.size
  have HBO := Lib.hid hBO
  have hpu1 : 1 ≤ pu.length := by obtain ⟨l', e⟩ := hWu.first; rw [e]; simp
  clear hWv hWu hlv hlu hrv hru hBO
  go_enter Try.func142, Try.ntmps142
  go_wp2_with fail
  go_quiet (fail)
  go_upto_region 3 with (first
    | (go_at_call 173; ((with_reducible refine (HWV _ (hF.drewN _)).mono ?_); rintro e w2 ⟨g, cg, rfl, hog⟩))
    | (go_at_call 172; (refine (fturned_any (natI pv) _ g cg w2 hog.1 (by omega)).mono ?_; rintro e w3 ⟨rfl, hot, hgt⟩)))
  have hgg := own_lt0 hog.1 g rfl
  have hgB : w.heap.size ≤ g := hgg.1
  have hF2 : FW w0 w2 n M L S := (hF.drewN _).go hog.2
  have hF3 : FW w0 w3 n M L S := hF2.grow' hgt (B := w.heap.size) (fun k hk => by have := Option.some.inj hk; omega) HBO.out hB0
  have ho3 : OwnI (w.drewN nq) w3 (.slice (some ⟨g, 0, none⟩) (natI pv).length cg) (natI pv.reverse) := by
    refine ⟨?_, Below.grown hog.2 hgt hog.2.size (fun k hk => by have := Option.some.inj hk; show w.heap.size ≤ k; omega)⟩
    rw [natI_reverse]
    exact own_cast hot (Nat.le_refl _) (by simp) rfl
  have HO3 := Lib.hid ho3
  clear hog hot hgt ho3 hF2
  have f7 := hF3.fc 7 _ rfl
  have c7 := hF3.c7 hw
  rw [HRU.out] at c7
  simp only [encO] at c7
  dsimp only [FLay.rv] at f7
  have hnr : (natI pv.reverse).length = (natI pv).length := by simp [natI]
  have HNR := Lib.hid hnr
  clear hnr
  go_upto_region 4 with (first
    | (go_at_call 173; ((with_reducible refine (HWU _ hF3).mono ?_); rintro e w4 ⟨g2, cg2, rfl, hog2⟩))
    | (at_builtin; go_loud ((refine wpList_appI EI_int rfl (.tmp 35) (.tmp 45) rfl (HO3.out.go hog2.2) rfl (natI pu) (some ⟨g2, 0, none⟩) cg2 (natI pu).length rfl rfl (own_reads1 hog2.1).1 (by rw [HNR.out]; omega) ?_); intro A5 c5 w5 ho5 hg5 hat5)))
  have hF5 : FW w0 w5 n M L S := (hF3.go hog2.2).grow' hg5 (B := w.heap.size) (fun k hk => by (have e9 : g = k := (by simpa [Value.ownBlock] using hk)); omega) HBO.out hB0
  obtain ⟨uu, mk, hM5⟩ := id hF5
  have e5 : natI pv.reverse ++ natI pu = natI (pv.reverse ++ pu) := (natI_append _ _).symm
  rw [e5] at ho5
  have hpos : 0 < (natI (pv.reverse ++ pu)).length := by simp [natI]; omega
  obtain ⟨g5, c5', cur, e6, hg5B, hg5l, hh5, _⟩ := own_open ho5.1 hpos
  have hle : (natI pv.reverse).length + (natI pu).length = (natI (pv.reverse ++ pu)).length := by simp [natI]
  have z9 := hM5.rf 9 (by omega) (by omega) rv
  have z9' := hM5.rf 9 (by omega) (by omega) ru
  have c9 := hM5.rc 9 (by omega) (by omega) rv _ (rowOf_get _ hrvn)
  have c9' := hM5.rc 9 (by omega) (by omega) ru _ (rowOf_get _ hrun)
  have f9 := hM5.fc 9 _ rfl
  have f7 := hM5.fc 7 _ rfl
  have c7 := hM5.rc 7 (by omega) (by omega) v _ (rowOf_get _ hv)
  have c7' := hM5.rc 7 (by omega) (by omega) u _ (rowOf_get _ hw)
  rw [HRV.out] at c7
  rw [HRU.out] at c7'
  simp only [encO] at c7 c7'
  dsimp only [FLay.rv] at f9 f7
  have r1 : (0 : Int) ≤ (rv : Int) := by omega
  have r2 : (rv : Int) < (n : Int) := by omega
  have r3 : (0 : Int) ≤ (ru : Int) := by omega
  have r4 : (ru : Int) < (n : Int) := by omega
  have hl9 := HBO.out _ (own_row (L := L) (i := 9) (by omega) (by omega))
  have HFin := Lib.hid (fun q => (⟨⟨uu, mk, ((hM5.drewN q).s9 rv true trivial).s9 ru true trivial⟩, own_set (own_set (show (w5.drewN q).ownsRow w.heap.size 3 1 (.slice A5 (natI (pv.reverse ++ pu)).length c5) (natI (pv.reverse ++ pu)).length (icells (natI (pv.reverse ++ pu))) from ho5.1) (a := ⟨L.b 9, rv, none⟩) hl9 _) (a := ⟨L.b 9, ru, none⟩) hl9 _⟩ :
    FW w0 (((w5.drewN q).setCell ⟨L.b 9, rv, none⟩ (.bool true)).setCell ⟨L.b 9, ru, none⟩ (.bool true)) n M L { S with gone := upd (upd S.gone rv true) ru true } ∧ (((w5.drewN q).setCell ⟨L.b 9, rv, none⟩ (.bool true)).setCell ⟨L.b 9, ru, none⟩ (.bool true)).ownsRow w.heap.size 3 1 (.slice A5 (natI (pv.reverse ++ pu)).length c5) (natI (pv.reverse ++ pu)).length (icells (natI (pv.reverse ++ pu)))))
  have hbw5 : Below w.heap.size w w5 := (below_drewN0 (Below.refl _ _) nq).trans ho5.2
  have HT5 := Lib.hid (fun q => (((FStep.of_below (L := L) hbw5).drewN q).set (p := ⟨L.b 9, rv, none⟩) (own_row (by omega) (by omega)) (.bool true)).set (p := ⟨L.b 9, ru, none⟩) (own_row (by omega) (by omega)) (.bool true))
  have HE6 := Lib.hid e6
  have HLE := Lib.hid hle
  clear hM5 hF5 ho5 hg5 hat5 hog2 hF3 HO3 e5 e6 hh5 hle hpos hl9
  (refine wp_region_rws [0, 0, 0, 0, 0, 0, 0, 0, 0, 0, 0, 0, 0, 0, 0, 0, 0, 0, 0, 0, 0, 0, 0, 2, 2, 2] (by kernel_rfl) (by kernel_rfl) (by kernel_rfl) (fun _ _ d _ _ h => by cases d <;> exact h) ?_
   simp only [pickL, reduceIte, Nat.reduceEqDiff]
   repeat (go_big_quiet_step (fail))
   refine wpQuiet_nil ?_
   repeat (refine wpW_step ?_ ?_ ?_; rotate_left; focus (intro w1; go_simp; first | done | with_reducible rfl))
   refine wpW_nil ?_
   intro _ hw'
   obtain ⟨nq, hw''⟩ := hw'
   subst hw'')
  go_wp2_with fail
  go_ret
  refine ⟨g5, c5', ?_, ?_, (HFin.out _).1, HT5.out _⟩
  · show Ending.returned (.slice A5 ((natI pv.reverse).length + (natI pu).length) c5) = _
    rw [HLE.out, HE6.out]
  · rw [← HE6.out]
    exact (HFin.out _).2
end Go.Proofs.Ytgddfmfiiodgbaa
