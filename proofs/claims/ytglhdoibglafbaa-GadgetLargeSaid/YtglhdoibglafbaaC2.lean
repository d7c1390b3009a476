/- The walk of gadget.New. -/
import Derived.Test.YtglhdoibglafbaaC1
import Derived.Test.YtglhdoibglafbaaBI
import Derived.Test.YtglhdoibglafbaaG1
import Derived.Deep.OwnRows
namespace Go.Proofs.Ytglhdoibglafbaa
open Go Go.RowKit
set_option maxRecDepth 100000
set_option linter.unusedVariables false

/-- A gadget as New leaves it ahead of its second loop: three rows of n numbers each. -/
def GadAt (w : World) (g bF bP bC : Nat) (m : Nat) (F P C : List Int) (near : Value) (E : Int) : Prop :=
  w.heap[g]? = some (.cells #[near, .slice (some ⟨bF, 0, none⟩) m m, .slice (some ⟨bP, 0, none⟩) m m, .slice (some ⟨bC, 0, none⟩) m m, .int .i64 E] 87 (0, 0)) ∧
  RowI w 3 bF F ∧ RowI w 3 bP P ∧ RowI w 3 bC C ∧ bF ≠ bP ∧ bF ≠ bC ∧ bP ≠ bC ∧ g ≠ bF ∧ g ≠ bP ∧ g ≠ bC

def bump (P : List Int) (e : Int × Int) : List Int :=
  let P1 := P.set e.1.toNat (P[e.1.toNat]?.getD 0 + 1)
  P1.set e.2.toNat (P1[e.2.toNat]?.getD 0 + 1)
def ports (m : Nat) (es : List (Int × Int)) : List Int := es.foldl bump (List.replicate m 0)
theorem bump_length (P : List Int) (e : Int × Int) : (bump P e).length = P.length := by simp [bump]
theorem ports_snoc (m : Nat) (es : List (Int × Int)) (e : Int × Int) : ports m (es ++ [e]) = bump (ports m es) e := by simp [ports]
theorem foldl_bump_length (es : List (Int × Int)) : ∀ P : List Int, (es.foldl bump P).length = P.length := by
  induction es with
  | nil => intro P; rfl
  | cons e es ih => intro P; rw [List.foldl_cons, ih, bump_length]
theorem ports_length (m : Nat) (es : List (Int × Int)) : (ports m es).length = m := by simp [ports, foldl_bump_length]
theorem bump_bound (P : List Int) (e : Int × Int) (B : Int) (h : ∀ x ∈ P, 0 ≤ x ∧ x ≤ B) : ∀ x ∈ bump P e, 0 ≤ x ∧ x ≤ B + 2 := by
  intro x hx
  unfold bump at hx
  have hg : ∀ i : Nat, 0 ≤ P[i]?.getD 0 ∧ (P[i]?.getD 0 ≤ B ∨ P[i]?.getD 0 = 0) := by
    intro i
    cases hp : P[i]? with
    | none => simp
    | some y => have := h y (List.mem_of_getElem? hp); simp; omega
  have hB : 0 ≤ B ∨ P = [] := by
    cases P with
    | nil => exact .inr rfl
    | cons y P => have := h y (by simp); left; omega
  rcases hB with hB | hB
  · rcases List.mem_or_eq_of_mem_set hx with h1 | h1
    · rcases List.mem_or_eq_of_mem_set h1 with h2 | h2
      · have := h x h2; omega
      · have := hg e.1.toNat; omega
    · rw [List.getElem?_set] at h1
      have h2 := hg e.2.toNat
      have h3 := hg e.1.toNat
      split at h1
      · split at h1
        · simp at h1; omega
        · simp at h1; omega
      · omega
  · subst hB; simp at hx
theorem foldl_bump_bound (es : List (Int × Int)) : ∀ (P : List Int) (B : Int), (∀ x ∈ P, 0 ≤ x ∧ x ≤ B) → ∀ x ∈ es.foldl bump P, 0 ≤ x ∧ x ≤ B + 2 * (es.length : Int) := by
  induction es with
  | nil => intro P B h x hx; have := h x hx; simp; omega
  | cons e es ih =>
    intro P B h x hx
    have := ih (bump P e) (B + 2) (bump_bound P e B h) x (by simpa using hx)
    simp; omega
theorem ports_bound (m : Nat) (es : List (Int × Int)) : ∀ x ∈ ports m es, 0 ≤ x ∧ x ≤ 2 * (es.length : Int) := by
  intro x hx
  have := foldl_bump_bound es (List.replicate m 0) 0 (by intro x hx; simp at hx; omega) x hx
  omega
theorem ports_take (m : Nat) (es : List (Int × Int)) (k : Nat) (e : Int × Int) (h : es[k]? = some e) : ports m (es.take (k + 1)) = bump (ports m (es.take k)) e := by
  rw [← ports_snoc]
  congr 1
  rw [List.take_add_one, h]
  rfl
theorem blkc {w : World} {g : Nat} {cs : Array Value} {T : TypeId} (h : w.heap[g]? = some (.cells cs T (0, 0))) (i : Nat) (v : Value) (hv : cs[i]? = some v) : w.cell? ⟨g, i, none⟩ = some v := (cell_of_row w g i cs T (0, 0) h).trans hv
theorem blkf {w : World} {g : Nat} {cs : Array Value} {T : TypeId} (h : w.heap[g]? = some (.cells cs T (0, 0))) (i : Nat) : w.frozen? ⟨g, i, none⟩ = false := by simp [World.frozen?, h]
theorem blkl {w : World} {g : Nat} {o : Obj} (h : w.heap[g]? = some o) : g < w.heap.size := by
  rcases Nat.lt_or_ge g w.heap.size with hl | hl
  · exact hl
  · rw [Array.getElem?_eq_none hl] at h; cases h

theorem blk_set1 {w : World} {g : Nat} {cs : Array Value} {T : TypeId} (h : w.heap[g]? = some (.cells cs T (0, 0))) (i : Nat) (v : Value) : (w.setCell ⟨g, i, none⟩ v).heap[g]? = some (.cells (cs.setIfInBounds i v) T (0, 0)) := by
  simp [World.setCell, Array.getElem?_modify, h]
def corE (p f : Int) : Int := max (p - f) 0
def gN (P f : List Int) : Nat → Int
  | 0 => 0
  | k + 1 => gN P f k + (P[k]?.getD 0 + corE (P[k]?.getD 0) (f[k]?.getD 0))
def gE (P f : List Int) (b : Int) : Nat → Int
  | 0 => b
  | k + 1 => gE P f b k + P[k]?.getD 0 * corE (P[k]?.getD 0) (f[k]?.getD 0)
def upTo (m k : Nat) (h : Nat → Int) : List Int := (List.range m).map fun i => if i < k then h i else 0
theorem upTo_length (m k : Nat) (h : Nat → Int) : (upTo m k h).length = m := by simp [upTo]
theorem upTo_zero (m : Nat) (h : Nat → Int) : upTo m 0 h = List.replicate m 0 := by
  unfold upTo
  apply List.ext_getElem
  · simp
  · intro i h1 h2; simp
theorem upTo_succ (m k : Nat) (h : Nat → Int) (hk : k < m) : upTo m (k + 1) h = (upTo m k h).set k (h k) := by
  unfold upTo
  apply List.ext_getElem
  · simp
  · intro i h1 h2
    rw [List.getElem_set]
    simp only [List.getElem_map, List.getElem_range]
    by_cases e : k = i
    · subst e; simp
    · rw [if_neg e]
      by_cases h3 : i < k
      · rw [if_pos h3, if_pos (by omega)]
      · rw [if_neg h3, if_neg (by omega)]
theorem upTo_get (m k : Nat) (h : Nat → Int) (i : Nat) (hi : i < m) : (upTo m k h)[i]? = some (if i < k then h i else 0) := by
  unfold upTo
  simp [hi]
/-- Degrees, and what f says, are bounded. -/
def Small2 (P f : List Int) : Prop := ∀ i : Nat, 0 ≤ P[i]?.getD 0 ∧ P[i]?.getD 0 ≤ 131072 ∧ 0 ≤ f[i]?.getD 0
theorem gN_bound {P f : List Int} (h : Small2 P f) (k : Nat) : 0 ≤ gN P f k ∧ gN P f k ≤ k * 262144 := by
  induction k with
  | zero => simp [gN]
  | succ k ih =>
    have := h k
    unfold gN corE
    omega
theorem gE_bound {P f : List Int} (h : Small2 P f) {b : Int} (hb : 0 ≤ b) (k : Nat) : b ≤ gE P f b k ∧ gE P f b k ≤ b + k * 17179869184 := by
  induction k with
  | zero => simp [gE]
  | succ k ih =>
    have h1 := h k
    unfold gE corE
    generalize P[k]?.getD 0 = p at *
    generalize f[k]?.getD 0 = q at *
    have h2 : 0 ≤ max (p - q) 0 ∧ max (p - q) 0 ≤ 131072 := by omega
    generalize max (p - q) 0 = r at *
    have h3 : 0 ≤ p * r := Int.mul_nonneg h1.1 h2.1
    have h4 : p * r ≤ 131072 * 131072 := Int.mul_le_mul h1.2.1 h2.2 h2.1 (by omega)
    omega

theorem al4 (w : World) (o1 o2 o3 o4 : Obj) : ((((w.alloc o1).alloc o2).alloc o3).alloc o4).heap[w.heap.size]? = some o1 ∧ ((((w.alloc o1).alloc o2).alloc o3).alloc o4).heap[w.heap.size + 1]? = some o2 ∧
    ((((w.alloc o1).alloc o2).alloc o3).alloc o4).heap[w.heap.size + 1 + 1]? = some o3 ∧ ((((w.alloc o1).alloc o2).alloc o3).alloc o4).heap[w.heap.size + 1 + 1 + 1]? = some o4 := by
  have e1 : (w.alloc o1).heap.size = w.heap.size + 1 := by simp
  have e2 : ((w.alloc o1).alloc o2).heap.size = w.heap.size + 1 + 1 := by simp
  have e3 : (((w.alloc o1).alloc o2).alloc o3).heap.size = w.heap.size + 1 + 1 + 1 := by simp
  refine ⟨heap_old (heap_old (heap_old (heap_alloc_new w o1))), ?_, ?_, ?_⟩
  · rw [← e1]; exact heap_old (heap_old (heap_alloc_new _ o2))
  · rw [← e2]; exact heap_old (heap_alloc_new _ o3)
  · rw [← e3]; exact heap_alloc_new _ o4

/-- What New leaves where graph and degrees are right. -/
def NewPost (m : Nat) (es : List (Int × Int)) (f : List Int) (w : World) (e : Ending) (w' : World) : Prop :=
  ((65536 < gN (ports m es) f m ∨ 1048576 < gE (ports m es) f es.length m) ∧ e = .returned (.tuple #[.pointer none, .int .i64 13]) ∧ Below w.heap.size w w') ∨
  (¬ (65536 < gN (ports m es) f m ∨ 1048576 < gE (ports m es) f es.length m) ∧ ∃ g bF bP bC bN : Nat, e = .returned (.tuple #[.pointer (some ⟨g, 0, none⟩), .int .i64 0]) ∧ Below w.heap.size w w' ∧
    w.heap.size ≤ g ∧ w.heap.size ≤ bF ∧ w.heap.size ≤ bP ∧ w.heap.size ≤ bC ∧
    GadAt w' g bF bP bC m (upTo m m (gN (ports m es) f)) (ports m es) (upTo m m (fun i => corE ((ports m es)[i]?.getD 0) (f[i]?.getD 0))) (.slice (some ⟨bN, 0, none⟩) (gN (ports m es) f m).toNat (gN (ports m es) f m).toNat) (gE (ports m es) f es.length m))

set_option maxHeartbeats 8000000 in
theorem new_any (m : Nat) (es : List (Int × Int)) (f : List Int) (A Af : Option Addr) (c cf : Nat) (w : World) (hr : Reads w A (pcells es)) (hc : es.length ≤ c) (hm : es.length ≤ 4611686018427387903)
    (hrf : Reads w Af (icells f)) (hcf : f.length ≤ cf) (hmf : f.length ≤ 4611686018427387903) (hde : degErr m es f = 0) :
    Calls Try.prog 61 #[.agg #[.int .i64 (m : Int), .slice A es.length c], .slice Af f.length cf] w (NewPost m es f w) := by
  have HD := fun W hR hF => degRight m es f A Af c cf W hR hc hm hF hcf hmf
  have hR : RightP m es := (right_iff _ _).1 (by
    unfold degErr at hde
    by_cases h : rightB m es = false
    · rw [if_pos h] at hde; omega
    · simpa using h)
  have hm1 : m ≤ 4096 := by have := hR.n1; omega
  have hmk2 := fun (N : Nat) (hN : N ≤ 65536) (w0 : World) => run_make_row' (P := Try.prog) 85 26 (.slice none 0 0) 24 Try.underlying85 (by kernel_rfl) rfl .i64 .i64 N (by omega) (by omega) w0
  have HMK2 := Lib.hid hmk2
  clear hmk2
  have hfl : f.length = m ∧ ∀ v ∈ f, 0 ≤ v ∧ v ≤ 4096 := by
    unfold degErr at hde
    rw [if_neg (by rw [(right_iff _ _).2 hR]; simp)] at hde
    by_cases h1 : (f.length : Int) = (m : Int)
    · rw [if_neg (by simpa using h1)] at hde
      by_cases h2 : 0 ≤ idxB badDeg f
      · rw [if_pos h2] at hde; omega
      · refine ⟨by omega, fun v hv => ?_⟩
        unfold idxB at h2
        cases hfi : f.findIdx? badDeg with
        | some i => rw [hfi] at h2; simp at h2
        | none =>
          have := List.findIdx?_eq_none_iff.1 hfi v hv
          unfold badDeg at this
          simp at this
          omega
    · rw [if_pos h1] at hde; omega
  have HFL := Lib.hid hfl
  clear hfl
  have hmk := fun w0 : World => run_make_row' (P := Try.prog) 26 3 (.int .i64 0) 8 Try.underlying26 (by kernel_rfl) rfl .i64 .i64 m (by omega) (by omega) w0
  rw [made_zero] at hmk
  rw [hde] at HD
  go_enter Try.func61, Try.ntmps61
  go_upto_region 4 with (first | (go_at_call 91; refine (HD _ (hr.below ?_) (hrf.below ?_)).mono ?_; (repeat (first | with_reducible exact Below.refl _ _ | with_reducible assumption | with_reducible refine below_drewN0 ?_ _ | with_reducible refine Below.drew ?_ | with_reducible refine Below.alloc ?_ ?_ _ | with_reducible refine Below.setCell ?_ ?_ _ | go_size)); (repeat (first | with_reducible exact Below.refl _ _ | with_reducible assumption | with_reducible refine below_drewN0 ?_ _ | with_reducible refine Below.drew ?_ | with_reducible refine Below.alloc ?_ ?_ _ | with_reducible refine Below.setCell ?_ ?_ _ | go_size)); rintro e w1 ⟨rfl, hb1⟩; have hbw : Below w.heap.size w w1 := Below.trans (by (repeat (first | with_reducible exact Below.refl _ _ | with_reducible assumption | with_reducible refine below_drewN0 ?_ _ | with_reducible refine Below.drew ?_ | with_reducible refine Below.alloc ?_ ?_ _ | with_reducible refine Below.setCell ?_ ?_ _ | go_size))) (hb1.mono (by simp)); obtain ⟨a0, a1, a2, a3, a4⟩ := blk2 ((hb1.block w.heap.size (by simp)).trans (heap_alloc_new _ _))))
  go_cut [7] (fun v7 wc => ∃ (g bF bP bC : Nat), v7 = .pointer (some ⟨g, 0, none⟩) ∧ Below w1.heap.size w1 wc ∧ Hid (GadAt wc g bF bP bC m (List.replicate m 0) (List.replicate m 0) (List.replicate m 0) (.slice none 0 0) es.length) ∧ Hid (w1.heap.size ≤ g ∧ w1.heap.size ≤ bF ∧ w1.heap.size ≤ bP ∧ w1.heap.size ≤ bC))
  case first =>
    have HS : Hid (∀ w', Below w1.heap.size w1 w' → w'.cell? ⟨w.heap.size, 0, none⟩ = some (.int .i64 (m : Int)) ∧ w'.cell? ⟨w.heap.size, 1, none⟩ = some (.slice A es.length c)) :=
      fun w' h' => ⟨(h'.cell (p := ⟨_, 0, none⟩) a4).trans a0, (h'.cell (p := ⟨_, 1, none⟩) a4).trans a1⟩
    go_region_held3 (fun w' => w'.cell? ⟨w.heap.size, 0, none⟩ = some (.int .i64 (m : Int)) ∧ w'.cell? ⟨w.heap.size, 1, none⟩ = some (.slice A es.length c)) (first | (refine HS.out _ ?_; (repeat (first | with_reducible exact Below.refl _ _ | with_reducible assumption | with_reducible refine below_drewN0 ?_ _ | with_reducible refine Below.drew ?_ | with_reducible refine Below.alloc ?_ ?_ _ | with_reducible refine Below.setCell ?_ ?_ _ | go_size)); done)) (fail)
    all_goals
      go_wp2_with fail
      go_meet
      have h4 := al4 w1 (Obj.cells (icells (List.replicate m 0)).toArray 3) (Obj.cells (icells (List.replicate m 0)).toArray 3) (Obj.cells (icells (List.replicate m 0)).toArray 3)
      refine ⟨w1.heap.size + 1 + 1 + 1, _, _, _, rfl, by (repeat (first | with_reducible exact Below.refl _ _ | with_reducible assumption | with_reducible refine below_drewN0 ?_ _ | with_reducible refine Below.drew ?_ | with_reducible refine Below.alloc ?_ ?_ _ | with_reducible refine Below.setCell ?_ ?_ _ | go_size)), ⟨(h4 _).2.2.2, ?_, ?_, ?_, by omega, by omega, by omega, by omega, by omega, by omega⟩, ⟨by omega, by omega, by omega, by omega⟩⟩
      all_goals first | exact (h4 _).1 | exact (h4 _).2.1 | exact (h4 _).2.2.1
  case rest =>
    obtain ⟨g, bF, bP, bC, rfl, hbc, hG, hO⟩ := hcut
    have hsz1 := hbw.size
    have b0 : wc.cell? ⟨w.heap.size, 0, none⟩ = some (.int .i64 (m : Int)) := (hbc.cell (p := ⟨_, 0, none⟩) a4).trans a0
    have b1 : wc.cell? ⟨w.heap.size, 1, none⟩ = some (.slice A es.length c) := (hbc.cell (p := ⟨_, 1, none⟩) a4).trans a1
    have hrc := (hr.below hbw).below hbc
    have hrfc := (hrf.below hbw).below hbc
    clear HD hmk
    go_wp2_with fail
    go_loopw [36] (fun i wr => ∃ k : Nat, k ≤ es.length ∧ i = .int .i64 k ∧ Hid (GadAt wr g bF bP bC m (List.replicate m 0) (ports m (es.take k)) (List.replicate m 0) (.slice none 0 0) es.length) ∧ Below w1.heap.size w1 wr) (fun i _ => es.length - (intOf i).toNat)
    case atStart => exact ⟨0, Nat.zero_le _, rfl, hG, hbc⟩
    case round =>
      clear hG hbc b0 b1 hrc hrfc
      obtain ⟨k, hk, rfl, hG, hb⟩ := hrel
      have b0 : wr.cell? ⟨w.heap.size, 0, none⟩ = some (.int .i64 (m : Int)) := (hb.cell (p := ⟨_, 0, none⟩) a4).trans a0
      by_cases hlt : k < es.length
      · obtain ⟨⟨x, y⟩, hxy⟩ : ∃ e, es[k]? = some e := ⟨es[k], by simp [hlt]⟩
        obtain ⟨b, o, rfl, hbl, e1, e2⟩ := ((hr.below hbw).below hb).pair' k _ hxy
        have hok := hR.ok _ (List.mem_of_getElem? hxy)
        have hpl := ports_length m (es.take k)
        have hpt := Lib.hid (ports_take m es k _ hxy)
        clear hxy
        have hbd := Lib.hid (ports_bound m (es.take k))
        have hpl' := Lib.hid hpl
        generalize hP : ports m (es.take k) = P at hG hpl' hbd hpt
        clear hP hpl
        obtain ⟨hg, hF, hPr, hC, n1, n2, n3, n4, n5, n6⟩ := hG.out
        have x1 : 0 ≤ x := hok.1
        have x2 : x < y := hok.2.1
        have x3 : y < (m : Int) := hok.2.2
        have x4 : x < (m : Int) := by omega
        have x5 : 0 ≤ y := by omega
        obtain ⟨px, hpx⟩ : ∃ p, P[x.toNat]? = some p := ⟨P[x.toNat]'(by rw [hpl'.out]; omega), by simp⟩
        have g2 := blkc hg 2 _ rfl
        have f2 := hPr.cell hpx
        have z2 := hPr.frozen x.toNat
        have px1 := (hbd.out px (List.mem_of_getElem? hpx)).1
        have px2 : px ≤ 200000 := by have := (hbd.out px (List.mem_of_getElem? hpx)).2; have hk9 := hR.len; have hk8 := List.length_take_le k es; omega
        have l1 := blkl hg
        have l2 := hPr.lt
        have HPX := Lib.hid hpx
        have hg' := Lib.hid hg
        clear hpx hok hg
        (go_wp2_with fail
         refine wp_quiet_tail 10 (by kernel_rfl) (by kernel_rfl) ?_
         simp only [List.take_succ_cons, List.take_zero, List.drop_succ_cons, List.drop_zero]
         repeat (go_big_quiet_step (fail))
         refine wpQuiet_nil ?_
         intro _ hw'
         obtain ⟨nq, hw''⟩ := hw'
         subst hw'')
        go_wp2_with fail
        have hO' := hO.out
        have hsw := hb.size
        have hbA : Below w1.heap.size w1 ((((wr.alloc (Obj.cells #[Value.int IntKind.i64 x, Value.int IntKind.i64 y] 28)).drewN nq).setCell ⟨bP, x.toNat, none⟩ (Value.int IntKind.i64 (px + 1)))) := by (repeat (first | with_reducible exact Below.refl _ _ | with_reducible assumption | with_reducible refine below_drewN0 ?_ _ | with_reducible refine Below.drew ?_ | with_reducible refine Below.alloc ?_ ?_ _ | with_reducible refine Below.setCell ?_ ?_ _ | go_size))
        have hgA : (((wr.alloc (Obj.cells #[Value.int IntKind.i64 x, Value.int IntKind.i64 y] 28)).drewN nq).setCell ⟨bP, x.toNat, none⟩ (Value.int IntKind.i64 (px + 1))).heap[g]? = _ := heap_far (heap_old hg'.out) n5 _
        have hFA : RowI (((wr.alloc (Obj.cells #[Value.int IntKind.i64 x, Value.int IntKind.i64 y] 28)).drewN nq).setCell ⟨bP, x.toNat, none⟩ (Value.int IntKind.i64 (px + 1))) _ _ _ := (hF.old _).far n1 _
        have hPA : RowI (((wr.alloc (Obj.cells #[Value.int IntKind.i64 x, Value.int IntKind.i64 y] 28)).drewN nq).setCell ⟨bP, x.toNat, none⟩ (Value.int IntKind.i64 (px + 1))) _ _ _ := RowI.set (hPr.old _) x.toNat (px + 1)
        have hCA : RowI (((wr.alloc (Obj.cells #[Value.int IntKind.i64 x, Value.int IntKind.i64 y] 28)).drewN nq).setCell ⟨bP, x.toNat, none⟩ (Value.int IntKind.i64 (px + 1))) _ _ _ := (hC.old _).far (Ne.symm n3) _
        have hEA : (((wr.alloc (Obj.cells #[Value.int IntKind.i64 x, Value.int IntKind.i64 y] 28)).drewN nq).setCell ⟨bP, x.toNat, none⟩ (Value.int IntKind.i64 (px + 1))).heap[wr.heap.size]? = _ := heap_far (heap_alloc_new wr (Obj.cells #[Value.int IntKind.i64 x, Value.int IntKind.i64 y] 28)) (by dsimp only; omega) _
        generalize ((wr.alloc (Obj.cells #[Value.int IntKind.i64 x, Value.int IntKind.i64 y] 28)).drewN nq).setCell ⟨bP, x.toNat, none⟩ (Value.int IntKind.i64 (px + 1)) = W1 at hbA hgA hFA hPA hCA hEA ⊢
        generalize hP1 : P.set x.toNat (px + 1) = P1 at hPA
        have hl1 : P1.length = m := by rw [← hP1, List.length_set]; exact hpl'.out
        obtain ⟨py, hpy⟩ : ∃ p, P1[y.toNat]? = some p := ⟨P1[y.toNat]'(by omega), by simp⟩
        have HP2 : Hid (bump P (x, y) = P1.set y.toNat (py + 1)) := by
          unfold Hid bump
          simp only [HPX.out, Option.getD_some, hP1, hpy]
        have py12 : 0 ≤ py ∧ py ≤ 300000 := by
          have h9 : py = px + 1 ∨ py ∈ P := by
            have := List.mem_of_getElem? hpy
            rw [← hP1] at this
            rcases List.mem_or_eq_of_mem_set this with h | h
            · exact .inr h
            · exact .inl h
          rcases h9 with h | h
          · omega
          · have h8 := hbd.out py h
            have hk9 := hR.len
            have hk8 := List.length_take_le k es
            omega
        have py1 := py12.1
        have py2 := py12.2
        have j2 := blkc hgA 2 _ rfl
        have s2 := hPA.cell hpy
        have t2 := hPA.frozen y.toNat
        obtain ⟨q0, q1, q2, q3, q4⟩ := blk2 hEA
        have hgA' := Lib.hid hgA
        have HPY := Lib.hid hpy
        clear g2 f2 z2 hpy hgA e1 e2 b0 py12
        (go_wp2_with fail
         refine wp_quiet_tail 10 (by kernel_rfl) (by kernel_rfl) ?_
         simp only [List.take_succ_cons, List.take_zero, List.drop_succ_cons, List.drop_zero]
         repeat (go_big_quiet_step (fail))
         refine wpQuiet_nil ?_
         intro _ hw'
         obtain ⟨nq, hw''⟩ := hw'
         subst hw'')
        go_wp2_with fail
        go_roundw
        case rel =>
          refine ⟨k + 1, by omega, by go_num, ?_, by (repeat (first | with_reducible exact Below.refl _ _ | with_reducible assumption | with_reducible refine below_drewN0 ?_ _ | with_reducible refine Below.drew ?_ | with_reducible refine Below.alloc ?_ ?_ _ | with_reducible refine Below.setCell ?_ ?_ _ | go_size))⟩
          rw [hpt.out, HP2.out]
          exact ⟨heap_far hgA'.out n5 _, hFA.far n1 _, RowI.set hPA _ _, hCA.far (Ne.symm n3) _, n1, n2, n3, n4, n5, n6⟩
        case measure => simp [intOf]; omega
      · obtain rfl : k = es.length := by omega
        rw [List.take_length] at hG
        have hsm : Small2 (ports m es) f := by
          intro i
          have hl := hR.len
          refine ⟨?_, ?_, ?_⟩
          · cases hp : (ports m es)[i]? with
            | none => simp
            | some v => have := ports_bound m es v (List.mem_of_getElem? hp); simp; omega
          · cases hp : (ports m es)[i]? with
            | none => simp
            | some v => have := ports_bound m es v (List.mem_of_getElem? hp); simp; omega
          · cases hp : f[i]? with
            | none => simp
            | some v => have := HFL.out.2 v (List.mem_of_getElem? hp); simp; exact this.1
        have HPL := Lib.hid (ports_length m es)
        have HSM := Lib.hid hsm
        clear hsm
        generalize hPP : ports m es = P at hG HPL HSM
        have HPP := Lib.hid hPP
        clear hPP
        have hwb0 := hb
        have e2 := blkc hG.out.1 2 _ rfl
        go_wp2_with fail
        obtain ⟨wo, rfl⟩ : ∃ wo : World, wo = wr := ⟨_, rfl⟩
        go_loopw [10, 66] (fun v10 i wr => ∃ k : Nat, k ≤ m ∧ i = .int .i64 k ∧ v10 = .int .i64 (gN P f k) ∧ Hid (GadAt wr g bF bP bC m (upTo m k (gN P f)) P (upTo m k (fun i => corE (P[i]?.getD 0) (f[i]?.getD 0))) (.slice none 0 0) (gE P f es.length k)) ∧ Below w1.heap.size w1 wr) (fun _ i _ => m - (intOf i).toNat)
        case atStart =>
          refine ⟨0, Nat.zero_le _, rfl, rfl, ?_, hwb0⟩
          rw [upTo_zero, upTo_zero]
          exact hG
        case round =>
          clear hG e2 hwb0 hb
          obtain ⟨k, hk, rfl, rfl, hG, hb⟩ := hrel
          obtain ⟨hg, hF, hPr, hC, n1, n2, n3, n4, n5, n6⟩ := hG.out
          have hO' := hO.out
          have hsw := hb.size
          have l1 := blkl hg
          have hnb := gN_bound HSM.out k
          have heb := gE_bound HSM.out (b := (es.length : Int)) (by omega) k
          have hel := hR.len
          by_cases hlt : k < m
          · obtain ⟨pk, hpk⟩ : ∃ p, P[k]? = some p := ⟨P[k]'(by rw [HPL.out]; omega), by simp⟩
            obtain ⟨fk, hfk⟩ : ∃ p, f[k]? = some p := ⟨f[k]'(by rw [HFL.out.1]; omega), by simp⟩
            obtain ⟨b, o, rfl, hbl, e0⟩ := hrf.int k fk hfk
            have hbl1 : b < w1.heap.size := Nat.lt_of_lt_of_le hbl hbw.size
            have e1 := (hb.cell (p := ⟨b, o + k, none⟩) hbl1).trans ((hbw.cell (p := ⟨b, o + k, none⟩) hbl).trans e0)
            clear e0
            have nb1 : b ≠ bF := by omega
            have nb3 : b ≠ bC := by omega
            have nbg : b ≠ g := by omega
            have hs := HSM.out k
            rw [hpk, hfk] at hs
            simp only [Option.getD_some] at hs
            obtain ⟨s1, s2, s3⟩ := hs
            have p1 := hPr.cell hpk
            have g1 := blkc hg 1 _ rfl
            have g2 := blkc hg 2 _ rfl
            have g3 := blkc hg 3 _ rfl
            have g4 := blkc hg 4 _ rfl
            have y1 := blkf hg 4
            have fF := hF.frozen k
            have fC := hC.frozen k
            have cF := hF.cell (i := k) (upTo_get m k _ k hlt)
            have cC := hC.cell (i := k) (upTo_get m k _ k hlt)
            have HPK := Lib.hid hpk
            have HFK := Lib.hid hfk
            have HG := Lib.hid hg
            have HFML := Lib.hid HFL.out.1
            have hkf : k < f.length := by rw [HFL.out.1]; omega
            have hkf2 : (k : Int) < (f.length : Int) := by omega
            have hkm2 : (k : Int) < (m : Int) := by omega
            have nn0 := hnb.1
            have nn1 : gN P f k ≤ 1073741824 := by omega
            have ee0 : 0 ≤ gE P f es.length k := by omega
            have ee1 : gE P f es.length k ≤ 140737488355328 := by omega
            have HN : Hid (gN P f (k + 1) = gN P f k + (pk + corE pk fk)) := by
              unfold Hid; rw [gN, HPK.out, HFK.out]; rfl
            have HE : Hid (gE P f es.length (k + 1) = gE P f es.length k + pk * corE pk fk) := by
              unfold Hid; rw [gE, HPK.out, HFK.out]; rfl
            have hgn : Hid (upTo m (k + 1) (gN P f) = (upTo m k (gN P f)).set k (gN P f k)) := upTo_succ m k _ hlt
            have hgc : Hid (upTo m (k + 1) (fun i => corE (P[i]?.getD 0) (f[i]?.getD 0)) = (upTo m k (fun i => corE (P[i]?.getD 0) (f[i]?.getD 0))).set k (corE pk fk)) := by
              unfold Hid; rw [upTo_succ m k _ hlt, HPK.out, HFK.out]; rfl
            clear hpk hfk hg hnb heb
            generalize hN0 : gN P f k = Nk at *
            generalize hE0 : gE P f es.length k = Ek at *
            clear hN0 hE0
            obtain ⟨cr, hcr⟩ : ∃ cr, cr = corE pk fk := ⟨_, rfl⟩
            have hcr1 : 0 ≤ cr ∧ cr ≤ 131072 := by rw [hcr]; unfold corE; omega
            have s4 : fk ≤ 4096 := (HFL.out.2 fk (List.mem_of_getElem? HFK.out)).2
            have hq : (if IntKind.i64.wrap (pk - fk) < 0 then (0 : Int) else IntKind.i64.wrap (pk - fk)) = cr := by
              rw [IntKind.wrap_i64, hcr]
              unfold corE
              split <;> omega
            have cr0 := hcr1.1
            have cr1 := hcr1.2
            have hm0 : 0 ≤ pk * cr := Int.mul_nonneg s1 cr0
            have hm1 : pk * cr ≤ 17179869184 := Int.le_trans (Int.mul_le_mul s2 cr1 cr0 (by omega)) (by omega)
            have HCR := Lib.hid hcr
            clear hcr hcr1
            go_wp2_with fail
            go_region_held3 (fun w' => w'.cell? ⟨g, 1, none⟩ = some (.slice (some ⟨bF, 0, none⟩) m m) ∧ w'.cell? ⟨g, 3, none⟩ = some (.slice (some ⟨bC, 0, none⟩) m m) ∧ w'.cell? ⟨b, o + k, none⟩ = some (.int .i64 fk)) (first | exact ⟨g1, g3, e1⟩ | (simp [go_sem, *]; done)) (fail)
            all_goals
              clear hq
              (go_wp2_with fail
               refine wp_quiet_tail 16 (by kernel_rfl) (by kernel_rfl) ?_
               simp only [List.take_succ_cons, List.take_zero, List.drop_succ_cons, List.drop_zero]
               repeat (go_big_quiet_step (fail))
               refine wpQuiet_nil ?_
               intro _ hw'
               obtain ⟨nq, hw''⟩ := hw'
               subst hw'')
              go_wp2_with fail
              go_roundw
              case rel =>
                refine ⟨k + 1, by omega, by go_num, by rw [HN.out, HCR.out], ?_, by (repeat (first | with_reducible exact Below.refl _ _ | with_reducible assumption | with_reducible refine below_drewN0 ?_ _ | with_reducible refine Below.drew ?_ | with_reducible refine Below.alloc ?_ ?_ _ | with_reducible refine Below.setCell ?_ ?_ _ | go_size))⟩
                rw [hgn.out, hgc.out, HE.out, ← HCR.out]
                exact ⟨blk_set1 (heap_far (heap_far HG.out n4 _) n6 _) 4 _, ((hF.set k Nk).far n2 _).far (Ne.symm n4) _, ((hPr.far (Ne.symm n1) _).far n3 _).far (Ne.symm n5) _, (RowI.set (hC.far (Ne.symm n2) _) k cr).far (Ne.symm n6) _, n1, n2, n3, n4, n5, n6⟩
              case measure => simp [intOf]; omega
          · obtain rfl : k = m := by omega
            have g4 := blkc hg 4 _ rfl
            have z0 := blkc hg 0 _ rfl
            have y0 := blkf hg 0
            have HG := Lib.hid hg
            clear hg
            have hN0 := hnb.1
            have hE0 : 0 ≤ gE P f es.length k := by omega
            have hBf : ∀ w', Below w1.heap.size wr w' → Below w.heap.size w w' := fun w' h' => hbw.trans ((hb.trans h').mono hbw.size)
            clear hnb heb
            by_cases c1 : 65536 < gN P f k
            · have c1' : decide (65536 < gN P f k) = true := decide_eq_true c1
              have C1 := Lib.hid c1
              clear c1
              go_wp2_with fail
              go_ret2
              refine .inl ⟨.inl (by rw [HPP.out]; exact C1.out), rfl, hBf _ (Below.refl _ _)⟩
            have c1' : decide (65536 < gN P f k) = false := decide_eq_false c1
            by_cases c2 : 1048576 < gE P f es.length k
            · have c2' : decide (1048576 < gE P f es.length k) = true := decide_eq_true c2
              have C2 := Lib.hid c2
              clear c1 c2
              go_wp2_with fail
              go_ret2
              refine .inl ⟨.inr (by rw [HPP.out]; exact C2.out), rfl, hBf _ (Below.refl _ _)⟩
            have c2' : decide (1048576 < gE P f es.length k) = false := decide_eq_false c2
            have C12 : Hid (¬ (65536 < gN P f k ∨ 1048576 < gE P f es.length k)) := by unfold Hid; omega
            obtain ⟨Nn, hNn⟩ : ∃ Nn : Nat, gN P f k = (Nn : Int) := ⟨(gN P f k).toNat, by omega⟩
            have hNn' : Nn ≤ 65536 := by omega
            have hmk := HMK2.out Nn hNn'
            have HNn := Lib.hid hNn
            rw [hNn] at c1'
            simp only [hNn]
            clear c1 c2 hN0 hNn
            go_wp2_with fail
            go_ret2
            have hbs := hbw.size
            refine .inr ⟨by rw [HPP.out]; exact C12.out, g, bF, bP, bC, wr.heap.size, rfl, hBf _ (by (repeat (first | with_reducible exact Below.refl _ _ | with_reducible assumption | with_reducible refine below_drewN0 ?_ _ | with_reducible refine Below.drew ?_ | with_reducible refine Below.alloc ?_ ?_ _ | with_reducible refine Below.setCell ?_ ?_ _ | go_size))), by omega, by omega, by omega, by omega, ?_⟩
            rw [HPP.out, HNn.out]
            exact ⟨heap_old (blk_set1 HG.out 0 _), (hF.far (Ne.symm n4) _).old _, (hPr.far (Ne.symm n5) _).old _, (hC.far (Ne.symm n6) _).old _, n1, n2, n3, n4, n5, n6⟩

theorem new_err (n : Int) (es : List (Int × Int)) (f : List Int) (A Af : Option Addr) (c cf : Nat) (w : World) (hr : Reads w A (pcells es)) (hc : es.length ≤ c) (hm : es.length ≤ 4611686018427387903)
    (hrf : Reads w Af (icells f)) (hcf : f.length ≤ cf) (hmf : f.length ≤ 4611686018427387903) (hde : degErr n es f ≠ 0) :
    Calls Try.prog 61 #[.agg #[.int .i64 n, .slice A es.length c], .slice Af f.length cf] w fun e w' => e = .returned (.tuple #[.pointer none, .int .i64 (degErr n es f)]) ∧ Below w.heap.size w w' := by
  have HD := fun W hR hF => degRight n es f A Af c cf W hR hc hm hF hcf hmf
  generalize degErr n es f = d at HD hde ⊢
  have hd' : (d != 0) = true := by simpa using hde
  clear hde
  go_enter Try.func61, Try.ntmps61
  go_wp2_with (first | (go_at_call 91; refine (HD _ (hr.below ?_) (hrf.below ?_)).mono ?_; (repeat (first | with_reducible exact Below.refl _ _ | with_reducible assumption | with_reducible refine below_drewN0 ?_ _ | with_reducible refine Below.drew ?_ | with_reducible refine Below.alloc ?_ ?_ _ | with_reducible refine Below.setCell ?_ ?_ _ | go_size)); (repeat (first | with_reducible exact Below.refl _ _ | with_reducible assumption | with_reducible refine below_drewN0 ?_ _ | with_reducible refine Below.drew ?_ | with_reducible refine Below.alloc ?_ ?_ _ | with_reducible refine Below.setCell ?_ ?_ _ | go_size)); rintro e w1 ⟨rfl, hb1⟩; have hbw : Below w.heap.size w w1 := Below.trans (by (repeat (first | with_reducible exact Below.refl _ _ | with_reducible assumption | with_reducible refine below_drewN0 ?_ _ | with_reducible refine Below.drew ?_ | with_reducible refine Below.alloc ?_ ?_ _ | with_reducible refine Below.setCell ?_ ?_ _ | go_size))) (hb1.mono (by simp))))
  go_ret2
  exact ⟨rfl, hbw⟩
end Go.Proofs.Ytglhdoibglafbaa
