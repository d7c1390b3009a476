/- Walk of the reference's Flip at a path that augments. -/
import Derived.Test.YtgddfmfiiodgbaaU37
import Derived.Test.YtgddfmfiiodgbaaU18
import Derived.Test.YtgddfmfiiodgbaaU33
import Derived.Test.YtgddfmfiiodgbaaU36
import Derived.Test.YtgddfmfiiodgbaaU32
import Derived.Test.YtgddfmfiiodgbaaU26
namespace Go.Proofs.Ytgddfmfiiodgbaa
open Go Go.RowKit
set_option maxRecDepth 100000
set_option linter.unusedVariables false
set_option linter.unusedSimpArgs false

def FlipPost (n : Nat) (M : Nat → Option Nat) (p : List Nat) (w : World) (e : Ending) (w' : World) : Prop :=
  ∃ g c, e = .returned (.tuple #[.slice (some ⟨g, 0, none⟩) n c, .int .i64 0]) ∧ n ≤ c ∧ OwnI w w' (.slice (some ⟨g, 0, none⟩) n c) (mateL n (turnF p M))

set_option maxHeartbeats 4000000 in
theorem flip_yes {n : Nat} {es : List (Int × Int)} {M : Nat → Option Nat} {p : List Nat} (hP : RightP n es) (hM : IsMat n (adjE es) M) (hp : AugW (adjE es) M p) (hlt : ∀ x ∈ p, x < n) (A mA pA : Option Addr) (c mc pc : Nat) (w : World)
    (hr : Reads w A (pcells es)) (hc : es.length ≤ c) (hrm : Reads w mA (icells (mateL n M))) (hrp : Reads w pA (icells (natI p))) (hpc : p.length ≤ pc) (hpl : p.length ≤ 1000000) :
    Calls Try.prog 48 #[.agg #[.int .i64 (n : Int), .slice A es.length c], .slice mA n mc, .slice pA p.length pc] w (FlipPost n M p w) := by
  have hI := hp.augI hM
  have hev := (AugW.evenLen hM hp).1
  have hm : es.length ≤ 2000000 := by have := hP.len; omega
  have hn4 : n ≤ 4096 := by have := hP.n1; omega
  have hn0 : 0 < n := by
    have h2 := hI.len
    have := hlt (p[0]'(by omega)) (List.getElem_mem _)
    omega
  have HRI := fun (W : World) (h : Below w.heap.size w W) => refRight (n : Int) es A c W (hr.below h) hc (by omega)
  rw [(right_iff _ _).2 hP] at HRI
  have HMR := fun (W : World) (h : Below w.heap.size w W) => rmright_mat A mA c mc W (hr.below h) hc hP hM (hrm.below h)
  have HAU := fun (W : World) (h : Below w.heap.size w W) => augments_yes hP hM hI hlt A mA pA c mc pc W (hr.below h) hc (hrm.below h) (hrp.below h) hpc hpl
  have HRP := Lib.hid hrp
  have HRM := Lib.hid hrm
  have HND := Lib.hid hI.nd
  have HLT := Lib.hid hlt
  clear hp hlt hrp hrm hr hM hP hI
  go_enter Try.func48, Try.ntmps48
  go_upto_region 1 with fail
  (have hX1 := Box2.new (Below.refl w.heap.size w) (Value.int IntKind.i64 (n : Int)) (Value.slice A es.length c) 25
   generalize w.alloc (Obj.cells #[Value.int IntKind.i64 (n : Int), Value.slice A es.length c] 25) = w1 at hX1 ⊢
   have c0 := hX1.c0
   have c1 := hX1.c1)
  go_upto_region 3 with (go_at_call 44; (refine (HRI w1 hX1.below).mono ?_; rintro e w2 ⟨rfl, hb2⟩))
  (have hX2 := hX1.go hb2
   clear c0 c1 hb2
   have c0 := hX2.c0
   have c1 := hX2.c1)
  go_upto_region 5 with (go_at_call 34; (refine (HMR w2 hX2.below).mono ?_; rintro e w3 ⟨rfl, hb3⟩))
  (have hX3 := hX2.go hb3
   clear c0 c1 hb3
   have c0 := hX3.c0
   have c1 := hX3.c1)
  have hml := mateL_length n M
  go_upto_region 9 with (first
    | (go_at_call 41; (refine (HAU w3 hX3.below).mono ?_; rintro e w4 ⟨rfl, hb4⟩; have hX4 := hX3.go hb4; have hO4 := OwnI.nil' hX4.below; have hR4 := HRM.out.below hX4.below))
    | (at_builtin; go_loud ((refine wpList_appI EI_int rfl (.const (.slice none 0 0)) (.tmp 25) rfl hO4 rfl (mateL n M) mA mc n hml rfl hR4 (by simp; omega) ?_); intro A5 c5 w5 ho5 _ _)))
  have ho6 : OwnI w w5 (.slice A5 (mateL n M).length c5) (mateL n M) := by simpa using ho5
  rw [hml] at ho6
  obtain ⟨g, c6, hg, hc6, hgb, _, _, _⟩ := own_block ho6.1 (by rw [mateL_length]; exact hn0)
  rw [mateL_length] at hg hc6
  simp only [Value.slice.injEq] at hg
  obtain ⟨rfl, _, rfl⟩ := hg
  have HO6 := Lib.hid ho6
  have HGB := Lib.hid hgb
  clear ho6 ho5 hO4 hR4 hX4 hX3 c0 c1 hb4 hml HRI HMR HAU hgb
  go_loopw [9] (fun i wr => ∃ (k : Nat), i = .int .i64 ((2 * k : Nat) : Int) ∧ 2 * k ≤ p.length ∧ Hid (OwnI w wr (.slice (some ⟨g, 0, none⟩) n c5) (mateL n (turnF (p.take (2 * k)) M)))) (fun i _ => p.length - (intOf i).toNat)
  case atStart => exact ⟨0, rfl, Nat.zero_le _, HO6⟩
  case round =>
    clear HO6
    obtain ⟨k, rfl, hk, hO⟩ := hrel
    by_cases hlt : 2 * k < p.length
    · have hlt2 : 2 * k + 1 < p.length := by omega
      obtain ⟨a, ha⟩ : ∃ a, p[2 * k]? = some a := ⟨p[2 * k], by simp⟩
      obtain ⟨b, hb⟩ : ∃ b, p[2 * k + 1]? = some b := ⟨p[2 * k + 1], by simp [hlt2]⟩
      have han := HLT.out a (List.mem_of_getElem? ha)
      have hbn := HLT.out b (List.mem_of_getElem? hb)
      have hab : a ≠ b := fun e => by
        subst e
        have := nodup_idx HND.out ha hb
        omega
      obtain ⟨pb, po, hpA, _, ca⟩ := (HRP.out.below hO.out.2).int (2 * k) (a : Int) (natI_get ha)
      obtain ⟨pb', po', hpA', _, cb⟩ := (HRP.out.below hO.out.2).int (2 * k + 1) (b : Int) (natI_get hb)
      rw [hpA] at hpA'
      obtain ⟨rfl, rfl⟩ : pb' = pb ∧ po' = po := by simp at hpA'; omega
      have HPA := Lib.hid hpA
      rw [hpA]
      have HAB := Lib.hid (And.intro ha hb)
      obtain ⟨g', c', hg', _, _, _, hcell, hfroz⟩ := own_block hO.out.1 (by rw [mateL_length]; exact hn0)
      rw [mateL_length] at hg'
      simp only [Value.slice.injEq, Option.some.injEq, Addr.mk.injEq, and_true, true_and] at hg'
      obtain ⟨rfl, rfl⟩ := hg'
      have cga := hcell a _ (icells_get _ a _ (mateL_get (turnF (p.take (2 * k)) M) han))
      have cgb := hcell b _ (icells_get _ b _ (mateL_get (turnF (p.take (2 * k)) M) hbn))
      have zga := hfroz a
      have zgb := hfroz b
      obtain ⟨i, hi⟩ : ∃ i, i = 2 * k := ⟨_, rfl⟩
      have HI := Lib.hid hi
      rw [← hi] at ca cb hlt hlt2 ⊢
      have i1 : (0 : Int) ≤ (i : Int) := by omega
      have i2 : (i : Int) < (p.length : Int) := by omega
      have i3 : IntKind.i64.wrap ((i : Int) + 1) = (i : Int) + 1 := by rw [IntKind.wrap_i64]; omega
      have i4 : (0 : Int) ≤ (i : Int) + 1 := by omega
      have i5 : (i : Int) + 1 < (p.length : Int) := by omega
      have i6 : IntKind.i64.wrap ((i : Int) + 2) = ((2 * (k + 1) : Nat) : Int) := by rw [IntKind.wrap_i64]; omega
      have i7 : ((i : Int) + 1).toNat = i + 1 := by omega
      have a1 : (0 : Int) ≤ (a : Int) := by omega
      have a2 : (a : Int) < (n : Int) := by omega
      have b1 : (0 : Int) ≤ (b : Int) := by omega
      have b2 : (b : Int) < (n : Int) := by omega
      have hR2 : ∀ q, OwnI w (((wr.drewN q).setCell ⟨g, a, none⟩ (.int .i64 (b : Int))).setCell ⟨g, b, none⟩ (.int .i64 (a : Int))) (.slice (some ⟨g, 0, none⟩) n c5) (mateL n (turnF (p.take (2 * (k + 1))) M)) := fun q => by
        have h0 := (hO.out.drewN q).1
        rw [mateL_length] at h0
        have h1 := own_write (own_write h0 a (by rw [icells_length, mateL_length]; exact han) (.int .i64 (b : Int))) b (by rw [List.length_set, icells_length, mateL_length]; exact hbn) (.int .i64 (a : Int))
        rw [icells_set, icells_set, mateL_set _ a (some b) (b : Int) rfl, mateL_set _ b (some a) (a : Int) rfl, ← turnF_two k p M a b HAB.out.1 HAB.out.2] at h1
        refine ⟨by rw [mateL_length]; exact h1, ?_⟩
        exact ((hO.out.drewN q).2.setCell (p := ⟨g, a, none⟩) HGB.out _).setCell (p := ⟨g, b, none⟩) HGB.out _
      have HR2 := Lib.hid hR2
      clear hi hR2 ha hb hcell hfroz hpA hpA'
      go_upto_region 11 with fail
      (refine wp_region_rws [0, 0, 0, 0, 0, 1, 0, 0, 0, 0, 0, 0, 0, 0, 0, 0, 0, 0, 0, 0, 0, 2, 2, 2] (by kernel_rfl) (by kernel_rfl) (by kernel_rfl) (fun _ _ d _ _ h => by cases d <;> exact h) ?_
       simp only [pickL, reduceIte, Nat.reduceEqDiff]
       repeat (go_big_quiet_step (fail))
       refine wpQuiet_nil ?_
       repeat (refine wpW_step ?_ ?_ ?_; rotate_left; focus (intro w1; go_simp; first | done | with_reducible rfl))
       refine wpW_nil ?_
       intro _ hw'
       obtain ⟨nq, hw''⟩ := hw'
       subst hw'')
      go_wp2_with fail
      have e1 := HI.out
      exact ⟨⟨k + 1, by go_num, by omega, HR2.out nq⟩, by simp [intOf]; omega⟩
    · have i2 : ¬ ((2 * k : Nat) : Int) < (p.length : Int) := by omega
      have hO' := hO.out
      rw [show p.take (2 * k) = p from List.take_of_length_le (by omega)] at hO'
      have HO := Lib.hid hO'
      clear hO hO'
      go_wp2_with fail
      go_ret2
      exact ⟨g, c5, rfl, hc6, HO.out⟩
end Go.Proofs.Ytgddfmfiiodgbaa

/- Walk of play.Mates: a matching. -/
namespace Go.Proofs.Ytgddfmfiiodgbaa
open Go Go.RowKit
set_option maxRecDepth 100000
set_option linter.unusedVariables false
set_option linter.unusedSimpArgs false

def rowL (n : Nat) (f : Nat → Int) : List Int := (List.range n).map f
theorem rowL_get {n v : Nat} {f : Nat → Int} (hv : v < n) : (rowL n f)[v]? = some (f v) := by simp [rowL, hv]
theorem rowL_length (n : Nat) (f : Nat → Int) : (rowL n f).length = n := by simp [rowL]
theorem rowL_congr {n : Nat} {f g : Nat → Int} (h : ∀ v, v < n → f v = g v) : rowL n f = rowL n g := List.map_congr_left fun v hv => h v (by simpa using hv)
theorem rowL_set {n : Nat} (f : Nat → Int) (v : Nat) (y : Int) : (rowL n f).set v y = rowL n (upd f v y) := by
  apply List.ext_getElem?
  intro j
  rw [List.getElem?_set]
  by_cases hj : v = j
  · subst hj
    by_cases hn : v < n
    · simp [rowL, hn, upd]
    · simp [rowL, hn]
  · rw [if_neg hj]
    simp only [rowL, List.getElem?_map]
    by_cases hjn : j < n
    · simp [hjn, upd, Ne.symm hj]
    · simp [hjn]
theorem rowL_made (n : Nat) : (Obj.cells (madeCells #[Value.int .i64 0] n) 3) = .cells (icells (rowL n fun _ => 0)).toArray 3 := by
  rw [made_const]
  congr 1
  simp [rowOf, icells, rowL, List.map_map]
theorem rowL_mate (n : Nat) (M : Nat → Option Nat) : mateL n M = rowL n fun v => encO (M v) := rfl

structure MtW (w : World) (n : Nat) (es : List (Int × Int)) (A : Option Addr) (c g : Nat) (wr : World) (f : Nat → Int) : Prop where
  box : Box2 w w.heap.size (.int .i64 (n : Int)) (.slice A es.length c) 25 wr
  row : RowI wr 3 g (rowL n f)
  lo : w.heap.size < g
theorem MtW.set {w : World} {n : Nat} {es : List (Int × Int)} {A : Option Addr} {c g : Nat} {wr : World} {f : Nat → Int} (h : MtW w n es A c g wr f) (v : Nat) (x : Int) : MtW w n es A c g (wr.setCell ⟨g, v, none⟩ (.int .i64 x)) (upd f v x) :=
  ⟨⟨heap_far h.box.blk (by have := h.lo; show w.heap.size ≠ g; omega) _, h.box.below.setCell (p := ⟨g, v, none⟩) (Nat.le_of_lt h.lo) _⟩, by rw [← rowL_set f v x]; exact h.row.set v _, h.lo⟩
theorem MtW.go {w : World} {n : Nat} {es : List (Int × Int)} {A : Option Addr} {c g : Nat} {wr wd : World} {f : Nat → Int} (h : MtW w n es A c g wr f) (hb : Below wr.heap.size wr wd) : MtW w n es A c g wd f := ⟨h.box.go hb, h.row.below hb h.row.lt, h.lo⟩

def MatesPost (n : Nat) (es : List (Int × Int)) (w : World) (e : Ending) (w' : World) : Prop :=
  ∃ M g, e = .returned (.slice (some ⟨g, 0, none⟩) n n) ∧ IsMat n (adjE es) M ∧ RowI w' 3 g (mateL n M) ∧ w.heap.size ≤ g ∧ Below w.heap.size w w'

set_option maxHeartbeats 4000000 in
theorem mates_any {n : Nat} {es : List (Int × Int)} (hP : RightP n es) (A pA : Option Addr) (c pc : Nat) (picks : List Int) (w : World) (hr : Reads w A (pcells es)) (hc : es.length ≤ c) (hrp : Reads w pA (icells picks)) (hpc : picks.length ≤ pc) (hpm : picks.length ≤ 4611686018427387903) :
    Calls Try.prog 37 #[.agg #[.int .i64 (n : Int), .slice A es.length c], .slice pA picks.length pc] w (MatesPost n es w) := by
  have hn4 : n ≤ 4096 := by have := hP.n1; omega
  have hm : es.length ≤ 65536 := by have := hP.len; omega
  have hmk := fun (W : World) => run_make_row' (P := Try.prog) 22 3 (.int .i64 0) 8 Try.underlying22 (by kernel_rfl) rfl .i64 .i64 n (by omega) (by omega) W
  have HR := Lib.hid hr
  have HRP := Lib.hid hrp
  have HP := Lib.hid hP
  clear hr hrp hP
  go_enter Try.func37, Try.ntmps37
  go_upto_region 1 with fail
  (have hX1 := Box2.new (Below.refl w.heap.size w) (Value.int IntKind.i64 (n : Int)) (Value.slice A es.length c) 25
   generalize w.alloc (Obj.cells #[Value.int IntKind.i64 (n : Int), Value.slice A es.length c] 25) = w1 at hX1 ⊢
   have c0 := hX1.c0
   have c1 := hX1.c1)
  go_upto_region 3 with fail
  have hT : MtW w n es A c w1.heap.size (w1.alloc (Obj.cells (madeCells #[Value.int .i64 0] n) 3)) (fun _ => 0) := ⟨hX1.old _, by rw [rowL_made]; exact heap_alloc_new _ _, hX1.lt⟩
  generalize w1.alloc (Obj.cells (madeCells #[Value.int .i64 0] n) 3) = w2 at hT ⊢
  obtain ⟨g, hg⟩ : ∃ g, g = w1.heap.size := ⟨_, rfl⟩
  rw [← hg] at hT ⊢
  have HT := Lib.hid hT
  clear hT hg hX1 c0 c1 hmk w1
  go_loopw [14] (fun i wr => ∃ (k : Nat), i = .int .i64 k ∧ k ≤ n ∧ Hid (MtW w n es A c g wr fun v => if v < k then -1 else 0)) (fun i _ => n - (intOf i).toNat)
  case atStart => exact ⟨0, rfl, Nat.zero_le _, by simpa using HT⟩
  case round =>
    clear HT
    obtain ⟨k, rfl, hk, hT⟩ := hrel
    by_cases hlt : k < n
    · have i1 : (k : Int) < (n : Int) := by omega
      have i2 : (0 : Int) ≤ (k : Int) := by omega
      have ck := hT.out.row.cell (rowL_get (f := fun v => if v < k then -1 else 0) hlt)
      have fk := hT.out.row.frozen k
      have hT2 := hT.out.set k (-1)
      have e : (upd (fun v => if v < k then (-1 : Int) else 0) k (-1)) = fun v => if v < k + 1 then (-1 : Int) else 0 := by
        funext v
        unfold upd
        by_cases h1 : v = k
        · subst h1; simp
        · by_cases h2 : v < k
          · rw [if_neg h1]; dsimp only; rw [if_pos h2, if_pos (by omega)]
          · rw [if_neg h1]; dsimp only; rw [if_neg h2, if_neg (by omega)]
      rw [e] at hT2
      have HT2 := Lib.hid hT2
      clear e hT2
      go_wp2_with fail
      exact ⟨⟨k + 1, by go_num, by omega, HT2⟩, by simp [intOf]; omega⟩
    · obtain rfl : k = n := by omega
      have hT0 : MtW w k es A c g wr fun v => encO ((fun _ => none : Nat → Option Nat) v) := ⟨hT.out.box, by
        have := hT.out.row
        rwa [rowL_congr (g := fun v => encO ((fun _ => none : Nat → Option Nat) v)) (fun v hv => by rw [if_pos hv]; rfl)] at this, hT.out.lo⟩
      have HT0 := Lib.hid hT0
      clear hT hT0 hk hlt
      go_wp2_with fail
      go_loopw [7] (fun i wr => ∃ (j : Nat) (M : Nat → Option Nat), i = .int .i64 j ∧ j ≤ 100 ∧ Hid (IsMat k (adjE es) M) ∧ Hid (MtW w k es A c g wr fun v => encO (M v))) (fun i _ => 100 - (intOf i).toNat)
      case atStart => exact ⟨0, _, rfl, Nat.zero_le _, none_mat, HT0⟩
      case round =>
        clear HT0
        obtain ⟨j, M, rfl, hj, hM, hT⟩ := hrel
        have c0 := hT.out.box.c0
        have c1 := hT.out.box.c1
        by_cases hgo : j < picks.length ∧ j < 100 ∧ 0 < es.length
        · obtain ⟨h1, h2, h3⟩ := hgo
          have d1 : decide ((j : Int) < (picks.length : Int)) = true := decide_eq_true (by omega)
          have d2 : decide ((j : Int) < 100) = true := decide_eq_true (by omega)
          have d3 : decide ((0 : Int) < (es.length : Int)) = true := decide_eq_true (by omega)
          obtain ⟨z, hz⟩ : ∃ z, picks[j]? = some z := ⟨picks[j], by simp [h1]⟩
          obtain ⟨r, hr1, hr2⟩ : ∃ r : Nat, (IntKind.u64.wrap z).tmod (es.length : Int) = (r : Int) ∧ r < es.length := by
            have h4 : 0 ≤ IntKind.u64.wrap z := by rw [IntKind.wrap_u64]; omega
            generalize IntKind.u64.wrap z = u at *
            have h5 := Int.tmod_nonneg (es.length : Int) h4
            have h6 := Int.tmod_lt_of_pos u (show 0 < (es.length : Int) by omega)
            exact ⟨(u.tmod (es.length : Int)).toNat, by omega, by omega⟩
          obtain ⟨⟨x, y⟩, hxy⟩ : ∃ e, es[r]? = some e := ⟨es[r], by simp [hr2]⟩
          have hok := HP.out.ok _ (List.mem_of_getElem? hxy)
          simp only at hok
          obtain ⟨a, rfl⟩ : ∃ a' : Nat, x = (a' : Int) := ⟨x.toNat, by omega⟩
          obtain ⟨b, rfl⟩ : ∃ b' : Nat, y = (b' : Int) := ⟨y.toNat, by omega⟩
          obtain ⟨eb, eo, hA, hebl, cx, cy⟩ := (HR.out.below hT.out.box.below).pair' r _ hxy
          simp only at cx cy
          obtain ⟨pb, po, hpA, hpbl, cp⟩ := (HRP.out.below hT.out.box.below).int j _ hz
          rw [hA] at c1
          rw [hA, hpA]
          have HA := Lib.hid (And.intro hA hpA)
          have HXY := Lib.hid hxy
          have i1 : (0 : Int) ≤ (j : Int) := by omega
          have i2 : (j : Int) < (picks.length : Int) := by omega
          have i3 : (0 : Int) ≤ (r : Int) := by omega
          have i4 : (r : Int) < (es.length : Int) := by omega
          have u1 : IntKind.u64.wrap (es.length : Int) = (es.length : Int) := by rw [IntKind.wrap_u64]; omega
          have u2 : IntKind.i64.wrap (r : Int) = (r : Int) := by rw [IntKind.wrap_i64]; omega
          have u5 : es ≠ [] := fun e => by rw [e] at h3; simp at h3
          have u3 : ((es.length : Int) == 0) = false := by simp [u5]
          have u4 : ¬ (es.length : Int) = 0 := by simp [u5]
          have HS : Hid (∀ W', Below wr.heap.size wr W' → W'.cell? ⟨w.heap.size, 1, none⟩ = some (.slice (some ⟨eb, eo, none⟩) es.length c) ∧ W'.cell? ⟨eb, eo + r * 2, none⟩ = some (.int .i64 (a : Int)) ∧ W'.cell? ⟨eb, eo + r * 2 + 1, none⟩ = some (.int .i64 (b : Int)) ∧ W'.cell? ⟨pb, po + j, none⟩ = some (.int .i64 z)) :=
            fun W' h => ⟨(h.cell (p := ⟨w.heap.size, 1, none⟩) hT.out.box.lt).trans c1, (h.cell (p := ⟨eb, _, none⟩) hebl).trans cx, (h.cell (p := ⟨eb, _, none⟩) hebl).trans cy, (h.cell (p := ⟨pb, _, none⟩) hpbl).trans cp⟩
          clear hA hpA hxy hz
          go_upto_region 10 with fail
          go_region_held3 (fun W' => W'.cell? ⟨w.heap.size, 1, none⟩ = some (.slice (some ⟨eb, eo, none⟩) es.length c) ∧ W'.cell? ⟨eb, eo + r * 2, none⟩ = some (.int .i64 (a : Int)) ∧ W'.cell? ⟨eb, eo + r * 2 + 1, none⟩ = some (.int .i64 (b : Int)) ∧ W'.cell? ⟨pb, po + j, none⟩ = some (.int .i64 z))
            (first | exact ⟨c1, cx, cy, cp⟩ | (refine HS.out _ ?_; (repeat (first | with_reducible exact Below.refl _ _ | with_reducible assumption | with_reducible refine below_drewN0 ?_ _ | with_reducible refine Below.drew ?_ | with_reducible refine Below.alloc ?_ ?_ _ | with_reducible refine Below.setCell ?_ ?_ _ | go_size | exact Below.size (by assumption))); done)) (fail)
          have hTb : Below wr.heap.size wr ((wr.alloc (Obj.cells #[Value.int IntKind.i64 (a : Int), Value.int IntKind.i64 (b : Int)] 49)).drew) := ((Below.refl _ _).alloc (Nat.le_refl _) _).drew
          have t7 : ((wr.alloc (Obj.cells #[Value.int IntKind.i64 (a : Int), Value.int IntKind.i64 (b : Int)] 49)).drew).heap[wr.heap.size]? = some (.cells #[Value.int IntKind.i64 (a : Int), Value.int IntKind.i64 (b : Int)] 49 (0, 0)) := heap_alloc_new _ _
          have hT5 := hT.out.go hTb
          have hgt : g ≠ wr.heap.size := by have := hT.out.row.lt; omega
          generalize (wr.alloc (Obj.cells #[Value.int IntKind.i64 (a : Int), Value.int IntKind.i64 (b : Int)] 49)).drew = w5 at hT5 t7 ⊢
          obtain ⟨t, ht⟩ : ∃ t, t = wr.heap.size := ⟨_, rfl⟩
          rw [← ht] at t7 hgt ⊢
          have q0 := blkc0 t7 0 _ rfl
          have q1 := blkc0 t7 1 _ rfl
          have T7 := Lib.hid t7
          have HT5 := Lib.hid hT5
          have hab : a ≠ b := by omega
          have han : a < k := by omega
          have hbn : b < k := by omega
          have a1 : (0 : Int) ≤ (a : Int) := by omega
          have a2 : (a : Int) < (k : Int) := by omega
          have b1 : (0 : Int) ≤ (b : Int) := by omega
          have b2 : (b : Int) < (k : Int) := by omega
          have cga := hT5.row.cell (rowL_get (f := fun v => encO (M v)) han)
          have cgb := hT5.row.cell (rowL_get (f := fun v => encO (M v)) hbn)
          clear hT HS hTb hT5 t7 c0 c1 cx cy cp hebl hpbl ht i1 i3 i4 u1 u2 u3 u4 u5 d3 hr1
          cases hma : M a with
          | some x =>
            simp only [hma] at cga
            have cga' : w5.cell? ⟨g, a, none⟩ = some (.int .i64 (x : Int)) := cga
            have e1 : decide ((x : Int) < 0) = false := decide_eq_false (by omega)
            clear cga cgb
            go_wp2_with fail
            exact ⟨⟨j + 1, M, by go_num, by omega, hM, by rw [← HA.out.1]; exact HT5⟩, by simp [intOf]; omega⟩
          | none =>
            simp only [hma] at cga
            have cga' : w5.cell? ⟨g, a, none⟩ = some (.int .i64 (-1)) := cga
            cases hmb : M b with
            | some x =>
              simp only [hmb] at cgb
              have cgb' : w5.cell? ⟨g, b, none⟩ = some (.int .i64 (x : Int)) := cgb
              have e1 : decide ((x : Int) < 0) = false := decide_eq_false (by omega)
              clear cga cgb
              go_wp2_with fail
              exact ⟨⟨j + 1, M, by go_num, by omega, hM, by rw [← HA.out.1]; exact HT5⟩, by simp [intOf]; omega⟩
            | none =>
              simp only [hmb] at cgb
              have cgb' : w5.cell? ⟨g, b, none⟩ = some (.int .i64 (-1)) := cgb
              have hM2 := Lib.hid (hM.out.pair (right_gr HP.out) (.inr (List.mem_of_getElem? HXY.out)) hma hmb)
              have za := HT5.out.row.frozen a
              have zb := HT5.out.row.frozen b
              have hN : MtW w k es A c g ((w5.setCell ⟨g, a, none⟩ (.int .i64 (b : Int))).setCell ⟨g, b, none⟩ (.int .i64 (a : Int))) fun v => encO (upd (upd M a (some b)) b (some a) v) := by
                have h1 := (HT5.out.set a (b : Int)).set b (a : Int)
                have e : upd (upd (fun v => encO (M v)) a (b : Int)) b (a : Int) = fun v => encO (upd (upd M a (some b)) b (some a) v) := by
                  funext v
                  unfold upd
                  by_cases e1 : v = b
                  · simp [e1, encO]
                  · by_cases e2 : v = a
                    · simp [e1, e2, encO, hab]
                    · simp [e1, e2]
                rwa [e] at h1
              have HN := Lib.hid hN
              clear cga cgb hN hma hmb
              go_upto_region 12 with fail
              go_region_held3 (fun W' => W'.cell? ⟨t, 0, none⟩ = some (.int .i64 (a : Int)) ∧ W'.cell? ⟨t, 1, none⟩ = some (.int .i64 (b : Int))) (first | exact ⟨q0, q1⟩ | (simp [go_sem, *]; done)) (fail)
              all_goals
                go_wp2_with fail
                exact ⟨⟨j + 1, _, by go_num, by omega, hM2, by rw [← HA.out.1]; first | exact HN.out.go ((Below.refl _ _).drew) | exact HN.out⟩, by simp [intOf]; omega⟩
        · have hfin : ∀ (W : World), MtW w k es A c g W (fun v => encO (M v)) → MatesPost k es w (.returned (.slice (some ⟨g, 0, none⟩) k k)) W := fun W h => ⟨M, g, rfl, hM.out, h.row, Nat.le_of_lt h.lo, h.box.below⟩
          by_cases h1 : j < picks.length
          · have d1 : decide ((j : Int) < (picks.length : Int)) = true := decide_eq_true (by omega)
            by_cases h2 : j < 100
            · have d2 : decide ((j : Int) < 100) = true := decide_eq_true (by omega)
              have h3 : es = [] := by
                cases es with
                | nil => rfl
                | cons e es => exact absurd ⟨h1, h2, by simp⟩ hgo
              have d3 : decide ((0 : Int) < (es.length : Int)) = false := by rw [h3]; rfl
              clear hgo
              go_wp2_with fail
              go_ret
              exact hfin _ hT.out
            · have d2 : decide ((j : Int) < 100) = false := decide_eq_false (by omega)
              clear hgo
              go_wp2_with fail
              go_ret
              exact hfin _ hT.out
          · have d1 : decide ((j : Int) < (picks.length : Int)) = false := decide_eq_false (by omega)
            clear hgo
            go_wp2_with fail
            go_ret
            exact hfin _ hT.out
end Go.Proofs.Ytgddfmfiiodgbaa
