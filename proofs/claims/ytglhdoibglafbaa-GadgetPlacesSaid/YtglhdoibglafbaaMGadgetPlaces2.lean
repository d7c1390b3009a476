/- The walk of gadget.New. -/
import Derived.Test.YtglhdoibglafbaaMGadgetPlaces1
import Derived.Deep.OwnRows
namespace Go.Proofs.Ytglhdoibglafbaa
open Go Go.RowKit
set_option maxRecDepth 100000
set_option linter.unusedVariables false

/-- A gadget as New leaves it ahead of its second loop: three rows of n numbers each. -/
def GadAt (w : World) (g bF bP bC : Nat) (m : Nat) (F P C : List Int) (near : Value) (E : Int) : Prop :=
  w.heap[g]? = some (.cells #[near, .slice (some ⟨bF, 0, none⟩) m m, .slice (some ⟨bP, 0, none⟩) m m, .slice (some ⟨bC, 0, none⟩) m m, .int .i64 E] 87 (0, 0)) ∧
  RowI w 3 bF F ∧ RowI w 3 bP P ∧ RowI w 3 bC C ∧ bF ≠ bP ∧ bF ≠ bC ∧ bP ≠ bC ∧ g ≠ bF ∧ g ≠ bP ∧ g ≠ bC

def bump (P : List Int) (e : Int × Int) : List Int :=
  let P1 := P.set e.1.toNat (P[e.1.toNat]?.getD 0 + 1)
  P1.set e.2.toNat (P1[e.2.toNat]?.getD 0 + 1)
def ports (m : Nat) (es : List (Int × Int)) : List Int := es.foldl bump (List.replicate m 0)
theorem bump_length (P : List Int) (e : Int × Int) : (bump P e).length = P.length := by simp [bump]
theorem ports_snoc (m : Nat) (es : List (Int × Int)) (e : Int × Int) : ports m (es ++ [e]) = bump (ports m es) e := by simp [ports]
theorem foldl_bump_length (es : List (Int × Int)) : ∀ P : List Int, (es.foldl bump P).length = P.length := by
  induction es with
  | nil => intro P; rfl
  | cons e es ih => intro P; rw [List.foldl_cons, ih, bump_length]
theorem ports_length (m : Nat) (es : List (Int × Int)) : (ports m es).length = m := by simp [ports, foldl_bump_length]
theorem bump_bound (P : List Int) (e : Int × Int) (B : Int) (h : ∀ x ∈ P, 0 ≤ x ∧ x ≤ B) : ∀ x ∈ bump P e, 0 ≤ x ∧ x ≤ B + 2 := by
  intro x hx
  unfold bump at hx
  have hg : ∀ i : Nat, 0 ≤ P[i]?.getD 0 ∧ (P[i]?.getD 0 ≤ B ∨ P[i]?.getD 0 = 0) := by
    intro i
    cases hp : P[i]? with
    | none => simp
    | some y => have := h y (List.mem_of_getElem? hp); simp; omega
  have hB : 0 ≤ B ∨ P = [] := by
    cases P with
    | nil => exact .inr rfl
    | cons y P => have := h y (by simp); left; omega
  rcases hB with hB | hB
  · rcases List.mem_or_eq_of_mem_set hx with h1 | h1
    · rcases List.mem_or_eq_of_mem_set h1 with h2 | h2
      · have := h x h2; omega
      · have := hg e.1.toNat; omega
    · rw [List.getElem?_set] at h1
      have h2 := hg e.2.toNat
      have h3 := hg e.1.toNat
      split at h1
      · split at h1
        · simp at h1; omega
        · simp at h1; omega
      · omega
  · subst hB; simp at hx
theorem foldl_bump_bound (es : List (Int × Int)) : ∀ (P : List Int) (B : Int), (∀ x ∈ P, 0 ≤ x ∧ x ≤ B) → ∀ x ∈ es.foldl bump P, 0 ≤ x ∧ x ≤ B + 2 * (es.length : Int) := by
  induction es with
  | nil => intro P B h x hx; have := h x hx; simp; omega
  | cons e es ih =>
    intro P B h x hx
    have := ih (bump P e) (B + 2) (bump_bound P e B h) x (by simpa using hx)
    simp; omega
theorem ports_bound (m : Nat) (es : List (Int × Int)) : ∀ x ∈ ports m es, 0 ≤ x ∧ x ≤ 2 * (es.length : Int) := by
  intro x hx
  have := foldl_bump_bound es (List.replicate m 0) 0 (by intro x hx; simp at hx; omega) x hx
  omega
theorem ports_take (m : Nat) (es : List (Int × Int)) (k : Nat) (e : Int × Int) (h : es[k]? = some e) : ports m (es.take (k + 1)) = bump (ports m (es.take k)) e := by
  rw [← ports_snoc]
  congr 1
  rw [List.take_add_one, h]
  rfl
theorem blkc {w : World} {g : Nat} {cs : Array Value} {T : TypeId} (h : w.heap[g]? = some (.cells cs T (0, 0))) (i : Nat) (v : Value) (hv : cs[i]? = some v) : w.cell? ⟨g, i, none⟩ = some v := (cell_of_row w g i cs T (0, 0) h).trans hv
theorem blkf {w : World} {g : Nat} {cs : Array Value} {T : TypeId} (h : w.heap[g]? = some (.cells cs T (0, 0))) (i : Nat) : w.frozen? ⟨g, i, none⟩ = false := by simp [World.frozen?, h]
theorem blkl {w : World} {g : Nat} {o : Obj} (h : w.heap[g]? = some o) : g < w.heap.size := by
  rcases Nat.lt_or_ge g w.heap.size with hl | hl
  · exact hl
  · rw [Array.getElem?_eq_none hl] at h; cases h

theorem blk_set1 {w : World} {g : Nat} {cs : Array Value} {T : TypeId} (h : w.heap[g]? = some (.cells cs T (0, 0))) (i : Nat) (v : Value) : (w.setCell ⟨g, i, none⟩ v).heap[g]? = some (.cells (cs.setIfInBounds i v) T (0, 0)) := by
  simp [World.setCell, Array.getElem?_modify, h]
def corE (p f : Int) : Int := max (p - f) 0
def gN (P f : List Int) : Nat → Int
  | 0 => 0
  | k + 1 => gN P f k + (P[k]?.getD 0 + corE (P[k]?.getD 0) (f[k]?.getD 0))
def gE (P f : List Int) (b : Int) : Nat → Int
  | 0 => b
  | k + 1 => gE P f b k + P[k]?.getD 0 * corE (P[k]?.getD 0) (f[k]?.getD 0)
def upTo (m k : Nat) (h : Nat → Int) : List Int := (List.range m).map fun i => if i < k then h i else 0
theorem upTo_length (m k : Nat) (h : Nat → Int) : (upTo m k h).length = m := by simp [upTo]
theorem upTo_zero (m : Nat) (h : Nat → Int) : upTo m 0 h = List.replicate m 0 := by
  unfold upTo
  apply List.ext_getElem
  · simp
  · intro i h1 h2; simp
theorem upTo_succ (m k : Nat) (h : Nat → Int) (hk : k < m) : upTo m (k + 1) h = (upTo m k h).set k (h k) := by
  unfold upTo
  apply List.ext_getElem
  · simp
  · intro i h1 h2
    rw [List.getElem_set]
    simp only [List.getElem_map, List.getElem_range]
    by_cases e : k = i
    · subst e; simp
    · rw [if_neg e]
      by_cases h3 : i < k
      · rw [if_pos h3, if_pos (by omega)]
      · rw [if_neg h3, if_neg (by omega)]
theorem upTo_get (m k : Nat) (h : Nat → Int) (i : Nat) (hi : i < m) : (upTo m k h)[i]? = some (if i < k then h i else 0) := by
  unfold upTo
  simp [hi]
/-- Degrees, and what f says, are bounded. -/
def Small2 (P f : List Int) : Prop := ∀ i : Nat, 0 ≤ P[i]?.getD 0 ∧ P[i]?.getD 0 ≤ 131072 ∧ 0 ≤ f[i]?.getD 0
theorem gN_bound {P f : List Int} (h : Small2 P f) (k : Nat) : 0 ≤ gN P f k ∧ gN P f k ≤ k * 262144 := by
  induction k with
  | zero => simp [gN]
  | succ k ih =>
    have := h k
    unfold gN corE
    omega
theorem gE_bound {P f : List Int} (h : Small2 P f) {b : Int} (hb : 0 ≤ b) (k : Nat) : b ≤ gE P f b k ∧ gE P f b k ≤ b + k * 17179869184 := by
  induction k with
  | zero => simp [gE]
  | succ k ih =>
    have h1 := h k
    unfold gE corE
    generalize P[k]?.getD 0 = p at *
    generalize f[k]?.getD 0 = q at *
    have h2 : 0 ≤ max (p - q) 0 ∧ max (p - q) 0 ≤ 131072 := by omega
    generalize max (p - q) 0 = r at *
    have h3 : 0 ≤ p * r := Int.mul_nonneg h1.1 h2.1
    have h4 : p * r ≤ 131072 * 131072 := Int.mul_le_mul h1.2.1 h2.2 h2.1 (by omega)
    omega

theorem al4 (w : World) (o1 o2 o3 o4 : Obj) : ((((w.alloc o1).alloc o2).alloc o3).alloc o4).heap[w.heap.size]? = some o1 ∧ ((((w.alloc o1).alloc o2).alloc o3).alloc o4).heap[w.heap.size + 1]? = some o2 ∧
    ((((w.alloc o1).alloc o2).alloc o3).alloc o4).heap[w.heap.size + 1 + 1]? = some o3 ∧ ((((w.alloc o1).alloc o2).alloc o3).alloc o4).heap[w.heap.size + 1 + 1 + 1]? = some o4 := by
  have e1 : (w.alloc o1).heap.size = w.heap.size + 1 := by simp
  have e2 : ((w.alloc o1).alloc o2).heap.size = w.heap.size + 1 + 1 := by simp
  have e3 : (((w.alloc o1).alloc o2).alloc o3).heap.size = w.heap.size + 1 + 1 + 1 := by simp
  refine ⟨heap_old (heap_old (heap_old (heap_alloc_new w o1))), ?_, ?_, ?_⟩
  · rw [← e1]; exact heap_old (heap_old (heap_alloc_new _ o2))
  · rw [← e2]; exact heap_old (heap_alloc_new _ o3)
  · rw [← e3]; exact heap_alloc_new _ o4

/-- What New leaves where graph and degrees are right. -/
def NewPost (m : Nat) (es : List (Int × Int)) (f : List Int) (w : World) (e : Ending) (w' : World) : Prop :=
  ((65536 < gN (ports m es) f m ∨ 1048576 < gE (ports m es) f es.length m) ∧ e = .returned (.tuple #[.pointer none, .int .i64 13]) ∧ Below w.heap.size w w') ∨
  (¬ (65536 < gN (ports m es) f m ∨ 1048576 < gE (ports m es) f es.length m) ∧ ∃ g bF bP bC bN : Nat, e = .returned (.tuple #[.pointer (some ⟨g, 0, none⟩), .int .i64 0]) ∧ Below w.heap.size w w' ∧
    w.heap.size ≤ g ∧ w.heap.size ≤ bF ∧ w.heap.size ≤ bP ∧ w.heap.size ≤ bC ∧
    GadAt w' g bF bP bC m (upTo m m (gN (ports m es) f)) (ports m es) (upTo m m (fun i => corE ((ports m es)[i]?.getD 0) (f[i]?.getD 0))) (.slice (some ⟨bN, 0, none⟩) (gN (ports m es) f m).toNat (gN (ports m es) f m).toNat) (gE (ports m es) f es.length m))

set_option maxHeartbeats 8000000 in
theorem new_any (m : Nat) (es : List (Int × Int)) (f : List Int) (A Af : Option Addr) (c cf : Nat) (w : World) (hr : Reads w A (pcells es)) (hc : es.length ≤ c) (hm : es.length ≤ 4611686018427387903)
    (hrf : Reads w Af (icells f)) (hcf : f.length ≤ cf) (hmf : f.length ≤ 4611686018427387903) (hde : degErr m es f = 0) :
    Calls Try.prog 61 #[.agg #[.int .i64 (m : Int), .slice A es.length c], .slice Af f.length cf] w (NewPost m es f w) := by
  have HD := fun W hR hF => degRight m es f A Af c cf W hR hc hm hF hcf hmf
  have hR : RightP m es := (right_iff _ _).1 (by
    unfold degErr at hde
    by_cases h : rightB m es = false
    · rw [if_pos h] at hde; omega
    · simpa using h)
  have hm1 : m ≤ 4096 := by have := hR.n1; omega
  have hmk2 := fun (N : Nat) (hN : N ≤ 65536) (w0 : World) => run_make_row' (P := Try.prog) 85 26 (.slice none 0 0) 24 Try.underlying85 (by kernel_rfl) rfl .i64 .i64 N (by omega) (by omega) w0
  have HMK2 := Lib.hid hmk2
  clear hmk2
  have hfl : f.length = m ∧ ∀ v ∈ f, 0 ≤ v ∧ v ≤ 4096 := by
    unfold degErr at hde
    rw [if_neg (by rw [(right_iff _ _).2 hR]; simp)] at hde
    by_cases h1 : (f.length : Int) = (m : Int)
    · rw [if_neg (by simpa using h1)] at hde
      by_cases h2 : 0 ≤ idxB badDeg f
      · rw [if_pos h2] at hde; omega
      · refine ⟨by omega, fun v hv => ?_⟩
        unfold idxB at h2
        cases hfi : f.findIdx? badDeg with
        | some i => rw [hfi] at h2; simp at h2
        | none =>
          have := List.findIdx?_eq_none_iff.1 hfi v hv
          unfold badDeg at this
          simp at this
          omega
    · rw [if_pos h1] at hde; omega
  have HFL := Lib.hid hfl
  clear hfl
  have hmk := fun w0 : World => run_make_row' (P := Try.prog) 26 3 (.int .i64 0) 8 Try.underlying26 (by kernel_rfl) rfl .i64 .i64 m (by omega) (by omega) w0
  rw [made_zero] at hmk
  rw [hde] at HD
  go_enter Try.func61, Try.ntmps61
  go_upto_region 4 with (first | (go_at_call 91; refine (HD _ (hr.below ?_) (hrf.below ?_)).mono ?_; (repeat (first | with_reducible exact Below.refl _ _ | with_reducible assumption | with_reducible refine below_drewN0 ?_ _ | with_reducible refine Below.drew ?_ | with_reducible refine Below.alloc ?_ ?_ _ | with_reducible refine Below.setCell ?_ ?_ _ | go_size | exact Below.size (by assumption))); (repeat (first | with_reducible exact Below.refl _ _ | with_reducible assumption | with_reducible refine below_drewN0 ?_ _ | with_reducible refine Below.drew ?_ | with_reducible refine Below.alloc ?_ ?_ _ | with_reducible refine Below.setCell ?_ ?_ _ | go_size | exact Below.size (by assumption))); rintro e w1 ⟨rfl, hb1⟩; have hbw : Below w.heap.size w w1 := Below.trans (by (repeat (first | with_reducible exact Below.refl _ _ | with_reducible assumption | with_reducible refine below_drewN0 ?_ _ | with_reducible refine Below.drew ?_ | with_reducible refine Below.alloc ?_ ?_ _ | with_reducible refine Below.setCell ?_ ?_ _ | go_size | exact Below.size (by assumption)))) (hb1.mono (by simp)); obtain ⟨a0, a1, a2, a3, a4⟩ := blk2 ((hb1.block w.heap.size (by simp)).trans (heap_alloc_new _ _))))
  go_cut [7] (fun v7 wc => ∃ (g bF bP bC : Nat), v7 = .pointer (some ⟨g, 0, none⟩) ∧ Below w1.heap.size w1 wc ∧ Hid (GadAt wc g bF bP bC m (List.replicate m 0) (List.replicate m 0) (List.replicate m 0) (.slice none 0 0) es.length) ∧ Hid (w1.heap.size ≤ g ∧ w1.heap.size ≤ bF ∧ w1.heap.size ≤ bP ∧ w1.heap.size ≤ bC))
  case first =>
    have HS : Hid (∀ w', Below w1.heap.size w1 w' → w'.cell? ⟨w.heap.size, 0, none⟩ = some (.int .i64 (m : Int)) ∧ w'.cell? ⟨w.heap.size, 1, none⟩ = some (.slice A es.length c)) :=
      fun w' h' => ⟨(h'.cell (p := ⟨_, 0, none⟩) a4).trans a0, (h'.cell (p := ⟨_, 1, none⟩) a4).trans a1⟩
    go_region_held3 (fun w' => w'.cell? ⟨w.heap.size, 0, none⟩ = some (.int .i64 (m : Int)) ∧ w'.cell? ⟨w.heap.size, 1, none⟩ = some (.slice A es.length c)) (first | (refine HS.out _ ?_; (repeat (first | with_reducible exact Below.refl _ _ | with_reducible assumption | with_reducible refine below_drewN0 ?_ _ | with_reducible refine Below.drew ?_ | with_reducible refine Below.alloc ?_ ?_ _ | with_reducible refine Below.setCell ?_ ?_ _ | go_size | exact Below.size (by assumption))); done)) (fail)
    all_goals
      go_wp2_with fail
      go_meet
      have h4 := al4 w1 (Obj.cells (icells (List.replicate m 0)).toArray 3) (Obj.cells (icells (List.replicate m 0)).toArray 3) (Obj.cells (icells (List.replicate m 0)).toArray 3)
      refine ⟨w1.heap.size + 1 + 1 + 1, _, _, _, rfl, by (repeat (first | with_reducible exact Below.refl _ _ | with_reducible assumption | with_reducible refine below_drewN0 ?_ _ | with_reducible refine Below.drew ?_ | with_reducible refine Below.alloc ?_ ?_ _ | with_reducible refine Below.setCell ?_ ?_ _ | go_size | exact Below.size (by assumption))), ⟨(h4 _).2.2.2, ?_, ?_, ?_, by omega, by omega, by omega, by omega, by omega, by omega⟩, ⟨by omega, by omega, by omega, by omega⟩⟩
      all_goals first | exact (h4 _).1 | exact (h4 _).2.1 | exact (h4 _).2.2.1
  case rest =>
    obtain ⟨g, bF, bP, bC, rfl, hbc, hG, hO⟩ := hcut
    have hsz1 := hbw.size
    have b0 : wc.cell? ⟨w.heap.size, 0, none⟩ = some (.int .i64 (m : Int)) := (hbc.cell (p := ⟨_, 0, none⟩) a4).trans a0
    have b1 : wc.cell? ⟨w.heap.size, 1, none⟩ = some (.slice A es.length c) := (hbc.cell (p := ⟨_, 1, none⟩) a4).trans a1
    have hrc := (hr.below hbw).below hbc
    have hrfc := (hrf.below hbw).below hbc
    clear HD hmk
    go_wp2_with fail
    go_loopw [36] (fun i wr => ∃ k : Nat, k ≤ es.length ∧ i = .int .i64 k ∧ Hid (GadAt wr g bF bP bC m (List.replicate m 0) (ports m (es.take k)) (List.replicate m 0) (.slice none 0 0) es.length) ∧ Below w1.heap.size w1 wr) (fun i _ => es.length - (intOf i).toNat)
    case atStart => exact ⟨0, Nat.zero_le _, rfl, hG, hbc⟩
    case round =>
      clear hG hbc b0 b1 hrc hrfc
      obtain ⟨k, hk, rfl, hG, hb⟩ := hrel
      have b0 : wr.cell? ⟨w.heap.size, 0, none⟩ = some (.int .i64 (m : Int)) := (hb.cell (p := ⟨_, 0, none⟩) a4).trans a0
      by_cases hlt : k < es.length
      · obtain ⟨⟨x, y⟩, hxy⟩ : ∃ e, es[k]? = some e := ⟨es[k], by simp [hlt]⟩
        obtain ⟨b, o, rfl, hbl, e1, e2⟩ := ((hr.below hbw).below hb).pair' k _ hxy
        have hok := hR.ok _ (List.mem_of_getElem? hxy)
        have hpl := ports_length m (es.take k)
        have hpt := Lib.hid (ports_take m es k _ hxy)
        clear hxy
        have hbd := Lib.hid (ports_bound m (es.take k))
        have hpl' := Lib.hid hpl
        generalize hP : ports m (es.take k) = P at hG hpl' hbd hpt
        clear hP hpl
        obtain ⟨hg, hF, hPr, hC, n1, n2, n3, n4, n5, n6⟩ := hG.out
        have x1 : 0 ≤ x := hok.1
        have x2 : x < y := hok.2.1
        have x3 : y < (m : Int) := hok.2.2
        have x4 : x < (m : Int) := by omega
        have x5 : 0 ≤ y := by omega
        obtain ⟨px, hpx⟩ : ∃ p, P[x.toNat]? = some p := ⟨P[x.toNat]'(by rw [hpl'.out]; omega), by simp⟩
        have g2 := blkc hg 2 _ rfl
        have f2 := hPr.cell hpx
        have z2 := hPr.frozen x.toNat
        have px1 := (hbd.out px (List.mem_of_getElem? hpx)).1
        have px2 : px ≤ 200000 := by have := (hbd.out px (List.mem_of_getElem? hpx)).2; have hk9 := hR.len; have hk8 := List.length_take_le k es; omega
        have l1 := blkl hg
        have l2 := hPr.lt
        have HPX := Lib.hid hpx
        have hg' := Lib.hid hg
        clear hpx hok hg
        (go_wp2_with fail
         refine wp_quiet_tail 10 (by kernel_rfl) (by kernel_rfl) ?_
         simp only [List.take_succ_cons, List.take_zero, List.drop_succ_cons, List.drop_zero]
         repeat (go_big_quiet_step (fail))
         refine wpQuiet_nil ?_
         intro _ hw'
         obtain ⟨nq, hw''⟩ := hw'
         subst hw'')
        go_wp2_with fail
        have hO' := hO.out
        have hsw := hb.size
        have hbA : Below w1.heap.size w1 ((((wr.alloc (Obj.cells #[Value.int IntKind.i64 x, Value.int IntKind.i64 y] 28)).drewN nq).setCell ⟨bP, x.toNat, none⟩ (Value.int IntKind.i64 (px + 1)))) := by (repeat (first | with_reducible exact Below.refl _ _ | with_reducible assumption | with_reducible refine below_drewN0 ?_ _ | with_reducible refine Below.drew ?_ | with_reducible refine Below.alloc ?_ ?_ _ | with_reducible refine Below.setCell ?_ ?_ _ | go_size | exact Below.size (by assumption)))
        have hgA : (((wr.alloc (Obj.cells #[Value.int IntKind.i64 x, Value.int IntKind.i64 y] 28)).drewN nq).setCell ⟨bP, x.toNat, none⟩ (Value.int IntKind.i64 (px + 1))).heap[g]? = _ := heap_far (heap_old hg'.out) n5 _
        have hFA : RowI (((wr.alloc (Obj.cells #[Value.int IntKind.i64 x, Value.int IntKind.i64 y] 28)).drewN nq).setCell ⟨bP, x.toNat, none⟩ (Value.int IntKind.i64 (px + 1))) _ _ _ := (hF.old _).far n1 _
        have hPA : RowI (((wr.alloc (Obj.cells #[Value.int IntKind.i64 x, Value.int IntKind.i64 y] 28)).drewN nq).setCell ⟨bP, x.toNat, none⟩ (Value.int IntKind.i64 (px + 1))) _ _ _ := RowI.set (hPr.old _) x.toNat (px + 1)
        have hCA : RowI (((wr.alloc (Obj.cells #[Value.int IntKind.i64 x, Value.int IntKind.i64 y] 28)).drewN nq).setCell ⟨bP, x.toNat, none⟩ (Value.int IntKind.i64 (px + 1))) _ _ _ := (hC.old _).far (Ne.symm n3) _
        have hEA : (((wr.alloc (Obj.cells #[Value.int IntKind.i64 x, Value.int IntKind.i64 y] 28)).drewN nq).setCell ⟨bP, x.toNat, none⟩ (Value.int IntKind.i64 (px + 1))).heap[wr.heap.size]? = _ := heap_far (heap_alloc_new wr (Obj.cells #[Value.int IntKind.i64 x, Value.int IntKind.i64 y] 28)) (by dsimp only; omega) _
        generalize ((wr.alloc (Obj.cells #[Value.int IntKind.i64 x, Value.int IntKind.i64 y] 28)).drewN nq).setCell ⟨bP, x.toNat, none⟩ (Value.int IntKind.i64 (px + 1)) = W1 at hbA hgA hFA hPA hCA hEA ⊢
        generalize hP1 : P.set x.toNat (px + 1) = P1 at hPA
        have hl1 : P1.length = m := by rw [← hP1, List.length_set]; exact hpl'.out
        obtain ⟨py, hpy⟩ : ∃ p, P1[y.toNat]? = some p := ⟨P1[y.toNat]'(by omega), by simp⟩
        have HP2 : Hid (bump P (x, y) = P1.set y.toNat (py + 1)) := by
          unfold Hid bump
          simp only [HPX.out, Option.getD_some, hP1, hpy]
        have py12 : 0 ≤ py ∧ py ≤ 300000 := by
          have h9 : py = px + 1 ∨ py ∈ P := by
            have := List.mem_of_getElem? hpy
            rw [← hP1] at this
            rcases List.mem_or_eq_of_mem_set this with h | h
            · exact .inr h
            · exact .inl h
          rcases h9 with h | h
          · omega
          · have h8 := hbd.out py h
            have hk9 := hR.len
            have hk8 := List.length_take_le k es
            omega
        have py1 := py12.1
        have py2 := py12.2
        have j2 := blkc hgA 2 _ rfl
        have s2 := hPA.cell hpy
        have t2 := hPA.frozen y.toNat
        obtain ⟨q0, q1, q2, q3, q4⟩ := blk2 hEA
        have hgA' := Lib.hid hgA
        have HPY := Lib.hid hpy
        clear g2 f2 z2 hpy hgA e1 e2 b0 py12
        (go_wp2_with fail
         refine wp_quiet_tail 10 (by kernel_rfl) (by kernel_rfl) ?_
         simp only [List.take_succ_cons, List.take_zero, List.drop_succ_cons, List.drop_zero]
         repeat (go_big_quiet_step (fail))
         refine wpQuiet_nil ?_
         intro _ hw'
         obtain ⟨nq, hw''⟩ := hw'
         subst hw'')
        go_wp2_with fail
        go_roundw
        case rel =>
          refine ⟨k + 1, by omega, by go_num, ?_, by (repeat (first | with_reducible exact Below.refl _ _ | with_reducible assumption | with_reducible refine below_drewN0 ?_ _ | with_reducible refine Below.drew ?_ | with_reducible refine Below.alloc ?_ ?_ _ | with_reducible refine Below.setCell ?_ ?_ _ | go_size | exact Below.size (by assumption)))⟩
          rw [hpt.out, HP2.out]
          exact ⟨heap_far hgA'.out n5 _, hFA.far n1 _, RowI.set hPA _ _, hCA.far (Ne.symm n3) _, n1, n2, n3, n4, n5, n6⟩
        case measure => simp [intOf]; omega
      · obtain rfl : k = es.length := by omega
        rw [List.take_length] at hG
        have hsm : Small2 (ports m es) f := by
          intro i
          have hl := hR.len
          refine ⟨?_, ?_, ?_⟩
          · cases hp : (ports m es)[i]? with
            | none => simp
            | some v => have := ports_bound m es v (List.mem_of_getElem? hp); simp; omega
          · cases hp : (ports m es)[i]? with
            | none => simp
            | some v => have := ports_bound m es v (List.mem_of_getElem? hp); simp; omega
          · cases hp : f[i]? with
            | none => simp
            | some v => have := HFL.out.2 v (List.mem_of_getElem? hp); simp; exact this.1
        have HPL := Lib.hid (ports_length m es)
        have HSM := Lib.hid hsm
        clear hsm
        generalize hPP : ports m es = P at hG HPL HSM
        have HPP := Lib.hid hPP
        clear hPP
        have hwb0 := hb
        have e2 := blkc hG.out.1 2 _ rfl
        go_wp2_with fail
        obtain ⟨wo, rfl⟩ : ∃ wo : World, wo = wr := ⟨_, rfl⟩
        go_loopw [10, 66] (fun v10 i wr => ∃ k : Nat, k ≤ m ∧ i = .int .i64 k ∧ v10 = .int .i64 (gN P f k) ∧ Hid (GadAt wr g bF bP bC m (upTo m k (gN P f)) P (upTo m k (fun i => corE (P[i]?.getD 0) (f[i]?.getD 0))) (.slice none 0 0) (gE P f es.length k)) ∧ Below w1.heap.size w1 wr) (fun _ i _ => m - (intOf i).toNat)
        case atStart =>
          refine ⟨0, Nat.zero_le _, rfl, rfl, ?_, hwb0⟩
          rw [upTo_zero, upTo_zero]
          exact hG
        case round =>
          clear hG e2 hwb0 hb
          obtain ⟨k, hk, rfl, rfl, hG, hb⟩ := hrel
          obtain ⟨hg, hF, hPr, hC, n1, n2, n3, n4, n5, n6⟩ := hG.out
          have hO' := hO.out
          have hsw := hb.size
          have l1 := blkl hg
          have hnb := gN_bound HSM.out k
          have heb := gE_bound HSM.out (b := (es.length : Int)) (by omega) k
          have hel := hR.len
          by_cases hlt : k < m
          · obtain ⟨pk, hpk⟩ : ∃ p, P[k]? = some p := ⟨P[k]'(by rw [HPL.out]; omega), by simp⟩
            obtain ⟨fk, hfk⟩ : ∃ p, f[k]? = some p := ⟨f[k]'(by rw [HFL.out.1]; omega), by simp⟩
            obtain ⟨b, o, rfl, hbl, e0⟩ := hrf.int k fk hfk
            have hbl1 : b < w1.heap.size := Nat.lt_of_lt_of_le hbl hbw.size
            have e1 := (hb.cell (p := ⟨b, o + k, none⟩) hbl1).trans ((hbw.cell (p := ⟨b, o + k, none⟩) hbl).trans e0)
            clear e0
            have nb1 : b ≠ bF := by omega
            have nb3 : b ≠ bC := by omega
            have nbg : b ≠ g := by omega
            have hs := HSM.out k
            rw [hpk, hfk] at hs
            simp only [Option.getD_some] at hs
            obtain ⟨s1, s2, s3⟩ := hs
            have p1 := hPr.cell hpk
            have g1 := blkc hg 1 _ rfl
            have g2 := blkc hg 2 _ rfl
            have g3 := blkc hg 3 _ rfl
            have g4 := blkc hg 4 _ rfl
            have y1 := blkf hg 4
            have fF := hF.frozen k
            have fC := hC.frozen k
            have cF := hF.cell (i := k) (upTo_get m k _ k hlt)
            have cC := hC.cell (i := k) (upTo_get m k _ k hlt)
            have HPK := Lib.hid hpk
            have HFK := Lib.hid hfk
            have HG := Lib.hid hg
            have HFML := Lib.hid HFL.out.1
            have hkf : k < f.length := by rw [HFL.out.1]; omega
            have hkf2 : (k : Int) < (f.length : Int) := by omega
            have hkm2 : (k : Int) < (m : Int) := by omega
            have nn0 := hnb.1
            have nn1 : gN P f k ≤ 1073741824 := by omega
            have ee0 : 0 ≤ gE P f es.length k := by omega
            have ee1 : gE P f es.length k ≤ 140737488355328 := by omega
            have HN : Hid (gN P f (k + 1) = gN P f k + (pk + corE pk fk)) := by
              unfold Hid; rw [gN, HPK.out, HFK.out]; rfl
            have HE : Hid (gE P f es.length (k + 1) = gE P f es.length k + pk * corE pk fk) := by
              unfold Hid; rw [gE, HPK.out, HFK.out]; rfl
            have hgn : Hid (upTo m (k + 1) (gN P f) = (upTo m k (gN P f)).set k (gN P f k)) := upTo_succ m k _ hlt
            have hgc : Hid (upTo m (k + 1) (fun i => corE (P[i]?.getD 0) (f[i]?.getD 0)) = (upTo m k (fun i => corE (P[i]?.getD 0) (f[i]?.getD 0))).set k (corE pk fk)) := by
              unfold Hid; rw [upTo_succ m k _ hlt, HPK.out, HFK.out]; rfl
            clear hpk hfk hg hnb heb
            generalize hN0 : gN P f k = Nk at *
            generalize hE0 : gE P f es.length k = Ek at *
            clear hN0 hE0
            obtain ⟨cr, hcr⟩ : ∃ cr, cr = corE pk fk := ⟨_, rfl⟩
            have hcr1 : 0 ≤ cr ∧ cr ≤ 131072 := by rw [hcr]; unfold corE; omega
            have s4 : fk ≤ 4096 := (HFL.out.2 fk (List.mem_of_getElem? HFK.out)).2
            have hq : (if IntKind.i64.wrap (pk - fk) < 0 then (0 : Int) else IntKind.i64.wrap (pk - fk)) = cr := by
              rw [IntKind.wrap_i64, hcr]
              unfold corE
              split <;> omega
            have cr0 := hcr1.1
            have cr1 := hcr1.2
            have hm0 : 0 ≤ pk * cr := Int.mul_nonneg s1 cr0
            have hm1 : pk * cr ≤ 17179869184 := Int.le_trans (Int.mul_le_mul s2 cr1 cr0 (by omega)) (by omega)
            have HCR := Lib.hid hcr
            clear hcr hcr1
            go_wp2_with fail
            go_region_held3 (fun w' => w'.cell? ⟨g, 1, none⟩ = some (.slice (some ⟨bF, 0, none⟩) m m) ∧ w'.cell? ⟨g, 3, none⟩ = some (.slice (some ⟨bC, 0, none⟩) m m) ∧ w'.cell? ⟨b, o + k, none⟩ = some (.int .i64 fk)) (first | exact ⟨g1, g3, e1⟩ | (simp [go_sem, *]; done)) (fail)
            all_goals
              clear hq
              (go_wp2_with fail
               refine wp_quiet_tail 16 (by kernel_rfl) (by kernel_rfl) ?_
               simp only [List.take_succ_cons, List.take_zero, List.drop_succ_cons, List.drop_zero]
               repeat (go_big_quiet_step (fail))
               refine wpQuiet_nil ?_
               intro _ hw'
               obtain ⟨nq, hw''⟩ := hw'
               subst hw'')
              go_wp2_with fail
              go_roundw
              case rel =>
                refine ⟨k + 1, by omega, by go_num, by rw [HN.out, HCR.out], ?_, by (repeat (first | with_reducible exact Below.refl _ _ | with_reducible assumption | with_reducible refine below_drewN0 ?_ _ | with_reducible refine Below.drew ?_ | with_reducible refine Below.alloc ?_ ?_ _ | with_reducible refine Below.setCell ?_ ?_ _ | go_size | exact Below.size (by assumption)))⟩
                rw [hgn.out, hgc.out, HE.out, ← HCR.out]
                exact ⟨blk_set1 (heap_far (heap_far HG.out n4 _) n6 _) 4 _, ((hF.set k Nk).far n2 _).far (Ne.symm n4) _, ((hPr.far (Ne.symm n1) _).far n3 _).far (Ne.symm n5) _, (RowI.set (hC.far (Ne.symm n2) _) k cr).far (Ne.symm n6) _, n1, n2, n3, n4, n5, n6⟩
              case measure => simp [intOf]; omega
          · obtain rfl : k = m := by omega
            have g4 := blkc hg 4 _ rfl
            have z0 := blkc hg 0 _ rfl
            have y0 := blkf hg 0
            have HG := Lib.hid hg
            clear hg
            have hN0 := hnb.1
            have hE0 : 0 ≤ gE P f es.length k := by omega
            have hBf : ∀ w', Below w1.heap.size wr w' → Below w.heap.size w w' := fun w' h' => hbw.trans ((hb.trans h').mono hbw.size)
            clear hnb heb
            by_cases c1 : 65536 < gN P f k
            · have c1' : decide (65536 < gN P f k) = true := decide_eq_true c1
              have C1 := Lib.hid c1
              clear c1
              go_wp2_with fail
              go_ret2
              refine .inl ⟨.inl (by rw [HPP.out]; exact C1.out), rfl, hBf _ (Below.refl _ _)⟩
            have c1' : decide (65536 < gN P f k) = false := decide_eq_false c1
            by_cases c2 : 1048576 < gE P f es.length k
            · have c2' : decide (1048576 < gE P f es.length k) = true := decide_eq_true c2
              have C2 := Lib.hid c2
              clear c1 c2
              go_wp2_with fail
              go_ret2
              refine .inl ⟨.inr (by rw [HPP.out]; exact C2.out), rfl, hBf _ (Below.refl _ _)⟩
            have c2' : decide (1048576 < gE P f es.length k) = false := decide_eq_false c2
            have C12 : Hid (¬ (65536 < gN P f k ∨ 1048576 < gE P f es.length k)) := by unfold Hid; omega
            obtain ⟨Nn, hNn⟩ : ∃ Nn : Nat, gN P f k = (Nn : Int) := ⟨(gN P f k).toNat, by omega⟩
            have hNn' : Nn ≤ 65536 := by omega
            have hmk := HMK2.out Nn hNn'
            have HNn := Lib.hid hNn
            rw [hNn] at c1'
            simp only [hNn]
            clear c1 c2 hN0 hNn
            go_wp2_with fail
            go_ret2
            have hbs := hbw.size
            refine .inr ⟨by rw [HPP.out]; exact C12.out, g, bF, bP, bC, wr.heap.size, rfl, hBf _ (by (repeat (first | with_reducible exact Below.refl _ _ | with_reducible assumption | with_reducible refine below_drewN0 ?_ _ | with_reducible refine Below.drew ?_ | with_reducible refine Below.alloc ?_ ?_ _ | with_reducible refine Below.setCell ?_ ?_ _ | go_size | exact Below.size (by assumption)))), by omega, by omega, by omega, by omega, ?_⟩
            rw [HPP.out, HNn.out]
            exact ⟨heap_old (blk_set1 HG.out 0 _), (hF.far (Ne.symm n4) _).old _, (hPr.far (Ne.symm n5) _).old _, (hC.far (Ne.symm n6) _).old _, n1, n2, n3, n4, n5, n6⟩

theorem new_err (n : Int) (es : List (Int × Int)) (f : List Int) (A Af : Option Addr) (c cf : Nat) (w : World) (hr : Reads w A (pcells es)) (hc : es.length ≤ c) (hm : es.length ≤ 4611686018427387903)
    (hrf : Reads w Af (icells f)) (hcf : f.length ≤ cf) (hmf : f.length ≤ 4611686018427387903) (hde : degErr n es f ≠ 0) :
    Calls Try.prog 61 #[.agg #[.int .i64 n, .slice A es.length c], .slice Af f.length cf] w fun e w' => e = .returned (.tuple #[.pointer none, .int .i64 (degErr n es f)]) ∧ Below w.heap.size w w' := by
  have HD := fun W hR hF => degRight n es f A Af c cf W hR hc hm hF hcf hmf
  generalize degErr n es f = d at HD hde ⊢
  have hd' : (d != 0) = true := by simpa using hde
  clear hde
  go_enter Try.func61, Try.ntmps61
  go_wp2_with (first | (go_at_call 91; refine (HD _ (hr.below ?_) (hrf.below ?_)).mono ?_; (repeat (first | with_reducible exact Below.refl _ _ | with_reducible assumption | with_reducible refine below_drewN0 ?_ _ | with_reducible refine Below.drew ?_ | with_reducible refine Below.alloc ?_ ?_ _ | with_reducible refine Below.setCell ?_ ?_ _ | go_size | exact Below.size (by assumption))); (repeat (first | with_reducible exact Below.refl _ _ | with_reducible assumption | with_reducible refine below_drewN0 ?_ _ | with_reducible refine Below.drew ?_ | with_reducible refine Below.alloc ?_ ?_ _ | with_reducible refine Below.setCell ?_ ?_ _ | go_size | exact Below.size (by assumption))); rintro e w1 ⟨rfl, hb1⟩; have hbw : Below w.heap.size w w1 := Below.trans (by (repeat (first | with_reducible exact Below.refl _ _ | with_reducible assumption | with_reducible refine below_drewN0 ?_ _ | with_reducible refine Below.drew ?_ | with_reducible refine Below.alloc ?_ ?_ _ | with_reducible refine Below.setCell ?_ ?_ _ | go_size | exact Below.size (by assumption)))) (hb1.mono (by simp))))
  go_ret2
  exact ⟨rfl, hbw⟩
end Go.Proofs.Ytglhdoibglafbaa

/- Walk of a gadget's Port. -/
namespace Go.Proofs.Ytglhdoibglafbaa
open Go Go.RowKit
set_option maxRecDepth 100000
set_option linter.unusedVariables false

set_option maxHeartbeats 1000000 in
theorem port_any (g bF m v : Nat) (F : List Int) (x k : Int) (w : World) (h1 : w.cell? ⟨g, 1, none⟩ = some (.slice (some ⟨bF, 0, none⟩) m m)) (hF : RowI w 3 bF F) (hl : F.length = m) (hx : F[v]? = some x) (hb : -4611686018427387904 ≤ x + k ∧ x + k ≤ 4611686018427387904) (hm : m ≤ 4611686018427387903) :
    Calls Try.prog 99 #[.pointer (some ⟨g, 0, none⟩), .int .i64 v, .int .i64 k] w fun e w' => e = .returned (.int .i64 (x + k)) ∧ Below w.heap.size w w' := by
  have hc := hF.cell hx
  have hv : v < m := by rw [← hl]; exact (List.getElem?_eq_some_iff.1 hx).1
  have hvI : (v : Int) < (m : Int) := by omega
  have t1 : IntKind.i64.wrap (x + k) = x + k := by rw [IntKind.wrap_i64]; omega
  clear hx hl hF
  go_enter Try.func99, Try.ntmps99
  go_wp2_with fail
  (try (go_quiet (fail)))
  (try (go_wp2_with fail))
  go_ret
  exact ⟨rfl, by (repeat (first | with_reducible exact Below.refl _ _ | with_reducible assumption | with_reducible refine below_drewN0 ?_ _ | with_reducible refine Below.drew ?_ | with_reducible refine Below.alloc ?_ ?_ _ | with_reducible refine Below.setCell ?_ ?_ _ | go_size | exact Below.size (by assumption)))⟩
end Go.Proofs.Ytglhdoibglafbaa

/- Walk of a gadget's Port, which changes nothing. -/
namespace Go.Proofs.Ytglhdoibglafbaa
open Go Go.RowKit
set_option maxRecDepth 100000
set_option linter.unusedVariables false

set_option maxHeartbeats 1000000 in
theorem port_still (g bF m v : Nat) (F : List Int) (x k : Int) (w : World) (h1 : w.cell? ⟨g, 1, none⟩ = some (.slice (some ⟨bF, 0, none⟩) m m)) (hF : RowI w 3 bF F) (hl : F.length = m) (hx : F[v]? = some x) (hb : -4611686018427387904 ≤ x + k ∧ x + k ≤ 4611686018427387904) (hm : m ≤ 4611686018427387903) :
    Calls Try.prog 99 #[.pointer (some ⟨g, 0, none⟩), .int .i64 v, .int .i64 k] w fun e w' => e = .returned (.int .i64 (x + k)) ∧ w' = w := by
  have hc := hF.cell hx
  have hv : v < m := by rw [← hl]; exact (List.getElem?_eq_some_iff.1 hx).1
  have hvI : (v : Int) < (m : Int) := by omega
  have t1 : IntKind.i64.wrap (x + k) = x + k := by rw [IntKind.wrap_i64]; omega
  clear hx hl hF
  go_enter Try.func99, Try.ntmps99
  go_wp2_with fail
  go_ret
  simp
end Go.Proofs.Ytglhdoibglafbaa

/- The walks of the document's answer for graphs: Right, turned, Index, Has, Is. -/

namespace Go.Proofs.Ytglhdoibglafbaa
open Go Go.RowKit
set_option maxRecDepth 100000
set_option linter.unusedVariables false

set_option maxHeartbeats 2000000 in
theorem refRight (n : Int) (es : List (Int × Int)) (A : Option Addr) (c : Nat) (w : World) (hr : Reads w A (pcells es)) (hc : es.length ≤ c) (hm : es.length ≤ 4611686018427387903) :
    Calls Try.prog 32 #[.agg #[.int .i64 n, .slice A es.length c]] w fun e w' => e = .returned (.bool (rightB n es)) ∧ Below w.heap.size w w' := by
  by_cases h1 : n < 0
  · have HR : rightB n es = false := by simp [rightB]; omega
    rw [HR]; clear HR
    go_enter Try.func32, Try.ntmps32
    go_wp2
    go_ret
    exact ⟨rfl, by go_grown⟩
  by_cases h2 : 4096 < n
  · have HR : rightB n es = false := by simp [rightB]; omega
    rw [HR]; clear HR
    go_enter Try.func32, Try.ntmps32
    go_wp2
    go_ret
    exact ⟨rfl, by go_grown⟩
  by_cases h3 : 65536 < es.length
  · have HR : rightB n es = false := by simp [rightB]; omega
    rw [HR]; clear HR
    have h3' : decide ((65536 : Int) < (es.length : Int)) = true := decide_eq_true (by omega)
    go_enter Try.func32, Try.ntmps32
    go_wp2
    go_ret
    exact ⟨rfl, by go_grown⟩
  have h3' : decide ((65536 : Int) < (es.length : Int)) = false := decide_eq_false (by omega)
  go_enter Try.func32, Try.ntmps32
  go_wp2
  generalize hW : w.alloc (Obj.cells #[Value.int IntKind.i64 n, Value.slice A es.length c] 25) = W
  have hbW : Below w.heap.size w W := by rw [← hW]; go_grown
  have hr1 := hr.below hbW
  have hg0 : W.cell? ⟨w.heap.size, 0, none⟩ = some (.int .i64 n) := by rw [← hW]; simp [go_sem]
  have hg1 : W.cell? ⟨w.heap.size, 1, none⟩ = some (.slice A es.length c) := by rw [← hW]; simp [go_sem]
  have hgW : w.heap.size < W.heap.size := by rw [← hW]; simp
  clear hW hr
  go_loopw [3] (fun i wr => ∃ k : Nat, k ≤ es.length ∧ i = .int .i64 k ∧ Hid (∀ j, j < k → okAt n es j = true) ∧ Below W.heap.size W wr) (fun i _ => es.length - (intOf i).toNat)
  case atStart => exact ⟨0, Nat.zero_le _, rfl, fun j hj => by omega, Below.refl _ _⟩
  case round =>
    obtain ⟨k, hk, rfl, hok, hb⟩ := hrel
    have hg0' := (hb.cell (p := ⟨w.heap.size, 0, none⟩) hgW).trans hg0
    have hg1' := (hb.cell (p := ⟨w.heap.size, 1, none⟩) hgW).trans hg1
    have hfin : ∀ w', Below W.heap.size wr w' → Below w.heap.size w w' := fun w' h' => hbW.trans ((hb.trans h').mono hbW.size)
    have hWr : W.heap.size ≤ wr.heap.size := hb.size
    have hgr : w.heap.size < wr.heap.size := Nat.lt_of_lt_of_le hgW hb.size
    by_cases hlt : k < es.length
    · obtain ⟨⟨x, y⟩, hxy⟩ : ∃ e, es[k]? = some e := ⟨es[k], by simp [hlt]⟩
      obtain ⟨b, o, rfl, hbl, e1, e2⟩ := (hr1.below hb).pair' k _ hxy
      have HXY := Lib.hid hxy
      clear hxy
      by_cases k1 : x < 0
      · go_wp2_with fail
        go_ret
        refine ⟨?_, hfin _ (by (repeat (first | with_reducible exact Below.refl _ _ | with_reducible assumption | with_reducible refine below_drewN0 ?_ _ | with_reducible refine Below.drew ?_ | with_reducible refine Below.alloc ?_ ?_ _ | with_reducible refine Below.setCell ?_ ?_ _ | go_size | exact Below.size (by assumption))))⟩
        rw [right_no n es k hlt (okAt_no HXY.out (by omega))]; rfl
      by_cases k2 : y ≤ x
      · go_wp2_with fail
        go_ret
        refine ⟨?_, hfin _ (by (repeat (first | with_reducible exact Below.refl _ _ | with_reducible assumption | with_reducible refine below_drewN0 ?_ _ | with_reducible refine Below.drew ?_ | with_reducible refine Below.alloc ?_ ?_ _ | with_reducible refine Below.setCell ?_ ?_ _ | go_size | exact Below.size (by assumption))))⟩
        rw [right_no n es k hlt (okAt_no HXY.out (by omega))]; rfl
      by_cases k3 : n ≤ y
      · have k3' : decide (n ≤ y) = true := decide_eq_true k3
        go_wp2_with fail
        go_ret
        refine ⟨?_, hfin _ (by (repeat (first | with_reducible exact Below.refl _ _ | with_reducible assumption | with_reducible refine below_drewN0 ?_ _ | with_reducible refine Below.drew ?_ | with_reducible refine Below.alloc ?_ ?_ _ | with_reducible refine Below.setCell ?_ ?_ _ | go_size | exact Below.size (by assumption))))⟩
        rw [right_no n es k hlt (okAt_no HXY.out (by omega))]; rfl
      have k3' : decide (n ≤ y) = false := decide_eq_false k3
      go_wp2_with fail
      by_cases k4 : k = 0
      · subst k4
        (refine wp_quiet_tail 10 (by kernel_rfl) (by kernel_rfl) ?_
         simp only [List.take_succ_cons, List.take_zero, List.drop_succ_cons, List.drop_zero]
         repeat (go_big_quiet_step (fail))
         refine wpQuiet_nil ?_
         intro _ hw'
         obtain ⟨nq, hw''⟩ := hw'
         subst hw'')
        go_wp2_with fail
        go_roundw
        case rel => exact ⟨1, by omega, rfl, Lib.hid (one_ok (p := fun j => okAt n es j = true) (okAt_zero (n := n) HXY.out (by omega) (by omega) (by omega))), hb.trans (by (repeat (first | with_reducible exact Below.refl _ _ | with_reducible assumption | with_reducible refine below_drewN0 ?_ _ | with_reducible refine Below.drew ?_ | with_reducible refine Below.alloc ?_ ?_ _ | with_reducible refine Below.setCell ?_ ?_ _ | go_size | exact Below.size (by assumption))))⟩
        case measure => simp [intOf]; omega
      obtain ⟨j, rfl⟩ : ∃ j, k = j + 1 := ⟨k - 1, by omega⟩
      obtain ⟨⟨x', y'⟩, hxy'⟩ : ∃ e, es[j]? = some e := ⟨es[j], by simp⟩
      obtain ⟨b', o', hbo, hbl', e1', e2'⟩ := (hr1.below hb).pair' j _ hxy'
      have HXY' := Lib.hid hxy'
      clear hxy'
      obtain ⟨rfl, rfl⟩ : b' = b ∧ o' = o := by simpa using hbo.symm
      clear hbo
      have HS := Lib.hid (okAt_succ (n := n) HXY.out HXY'.out (by omega) (by omega) (by omega))
      have HA := fun W => aheadE x' y' x y W
      rw [ahead_cmp] at HA
      generalize decide (cmpE x' y' x y < 0) = cp at HS HA
      cases cp with
      | false =>
        (refine wp_quiet_tail 10 (by kernel_rfl) (by kernel_rfl) ?_
         simp only [List.take_succ_cons, List.take_zero, List.drop_succ_cons, List.drop_zero]
         repeat (go_big_quiet_step (fail))
         refine wpQuiet_nil ?_
         intro _ hw'
         obtain ⟨nq, hw''⟩ := hw'
         subst hw'')
        go_wp2_with (go_at_call 69; refine (HA _).mono ?_; rintro e w1 ⟨rfl, hb1⟩)
        go_ret
        refine ⟨?_, hfin _ ?_⟩
        · rw [right_no n es (j + 1) hlt HS.out]; rfl
        · exact Below.trans (by (repeat (first | with_reducible exact Below.refl _ _ | with_reducible assumption | with_reducible refine below_drewN0 ?_ _ | with_reducible refine Below.drew ?_ | with_reducible refine Below.alloc ?_ ?_ _ | with_reducible refine Below.setCell ?_ ?_ _ | go_size | exact Below.size (by assumption)))) (hb1.mono (by simp; omega))
      | true =>
        (refine wp_quiet_tail 10 (by kernel_rfl) (by kernel_rfl) ?_
         simp only [List.take_succ_cons, List.take_zero, List.drop_succ_cons, List.drop_zero]
         repeat (go_big_quiet_step (fail))
         refine wpQuiet_nil ?_
         intro _ hw'
         obtain ⟨nq, hw''⟩ := hw'
         subst hw'')
        go_wp2_with (go_at_call 69; refine (HA _).mono ?_; rintro e w1 ⟨rfl, hb1⟩)
        go_roundw
        case rel => exact ⟨j + 1 + 1, by omega, by go_num, Lib.hid (succ_ok (p := fun j => okAt n es j = true) hok.out HS.out), hb.trans (Below.trans (by (repeat (first | with_reducible exact Below.refl _ _ | with_reducible assumption | with_reducible refine below_drewN0 ?_ _ | with_reducible refine Below.drew ?_ | with_reducible refine Below.alloc ?_ ?_ _ | with_reducible refine Below.setCell ?_ ?_ _ | go_size | exact Below.size (by assumption)))) (hb1.mono (by simp; omega)))⟩
        case measure => simp [intOf]; omega
    · go_wp2_with fail
      go_ret
      exact ⟨by rw [right_yes n es h1 h2 (by omega) (fun j hj => hok.out j (by omega))]; rfl, hfin _ (Below.refl _ _)⟩

theorem turned_any (a b : Int) (w : World) :
    Calls Try.prog 71 #[.int .i64 a, .int .i64 b] w fun e w' => e = .returned (.agg #[.int .i64 (min a b), .int .i64 (max a b)]) ∧ Below w.heap.size w w' := by
  by_cases h : b < a
  · have h1 : min a b = b := by omega
    have h2 : max a b = a := by omega
    rw [h1, h2]; clear h1 h2
    go_enter Try.func71, Try.ntmps71
    go_wp2
    go_returns
    exact ⟨rfl, by (repeat (first | with_reducible exact Below.refl _ _ | with_reducible assumption | with_reducible refine below_drewN0 ?_ _ | with_reducible refine Below.drew ?_ | with_reducible refine Below.alloc ?_ ?_ _ | with_reducible refine Below.setCell ?_ ?_ _ | go_size | exact Below.size (by assumption)))⟩
  · have h1 : min a b = a := by omega
    have h2 : max a b = b := by omega
    rw [h1, h2]; clear h1 h2
    go_enter Try.func71, Try.ntmps71
    go_wp2
    go_returns
    exact ⟨rfl, by (repeat (first | with_reducible exact Below.refl _ _ | with_reducible assumption | with_reducible refine below_drewN0 ?_ _ | with_reducible refine Below.drew ?_ | with_reducible refine Below.alloc ?_ ?_ _ | with_reducible refine Below.setCell ?_ ?_ _ | go_size | exact Below.size (by assumption)))⟩

set_option maxHeartbeats 1000000 in
theorem refIndex (n a b : Int) (es : List (Int × Int)) (A : Option Addr) (c : Nat) (w : World) (hr : Reads w A (pcells es)) (hc : es.length ≤ c) (hm : es.length ≤ 4611686018427387903) :
    Calls Try.prog 36 #[.agg #[.int .i64 n, .slice A es.length c], .int .i64 a, .int .i64 b] w fun e w' => e = .returned (.int .i64 (indexB n es a b)) ∧ Below w.heap.size w w' := by
  have HRt := fun W hR => refRight n es A c W hR hc hm
  unfold indexB
  generalize hrb : rightB n es = rb at HRt ⊢
  cases rb with
  | false =>
    rw [if_neg (by simp)]
    go_enter Try.func36, Try.ntmps36
    go_wp2_with (go_at_call 32; refine (HRt _ ?_).mono ?_; exact hr.below (by (repeat (first | with_reducible exact Below.refl _ _ | with_reducible assumption | with_reducible refine below_drewN0 ?_ _ | with_reducible refine Below.drew ?_ | with_reducible refine Below.alloc ?_ ?_ _ | with_reducible refine Below.setCell ?_ ?_ _ | go_size | exact Below.size (by assumption)))); rintro e w1 ⟨rfl, hb1⟩)
    go_ret
    exact ⟨rfl, Below.trans (by (repeat (first | with_reducible exact Below.refl _ _ | with_reducible assumption | with_reducible refine below_drewN0 ?_ _ | with_reducible refine Below.drew ?_ | with_reducible refine Below.alloc ?_ ?_ _ | with_reducible refine Below.setCell ?_ ?_ _ | go_size | exact Below.size (by assumption)))) (hb1.mono (by simp))⟩
  | true =>
    rw [if_pos rfl]
    clear hrb
    have HT := fun W => turned_any a b W
    generalize min a b = x at HT ⊢
    generalize max a b = y at HT ⊢
    go_enter Try.func36, Try.ntmps36
    go_wp2_with (first | (go_at_call 32; refine (HRt _ ?_).mono ?_; exact hr.below (by (repeat (first | with_reducible exact Below.refl _ _ | with_reducible assumption | with_reducible refine below_drewN0 ?_ _ | with_reducible refine Below.drew ?_ | with_reducible refine Below.alloc ?_ ?_ _ | with_reducible refine Below.setCell ?_ ?_ _ | go_size | exact Below.size (by assumption)))); rintro e w1 ⟨rfl, hb1⟩) | (go_at_call 71; refine (HT _).mono ?_; rintro e w2 ⟨rfl, hb2⟩))
    have hB : Below (w.alloc (Obj.cells #[Value.int IntKind.i64 n, Value.slice A es.length c] 25)).heap.size (w.alloc (Obj.cells #[Value.int IntKind.i64 n, Value.slice A es.length c] 25)) (w2.alloc (Obj.cells #[Value.int IntKind.i64 x, Value.int IntKind.i64 y] 28)) :=
      (hb1.trans (hb2.mono hb1.size)).alloc (Nat.le_trans hb1.size hb2.size) _
    have hg1 := (hB.cell (p := ⟨w.heap.size, 1, none⟩) (by simp)).trans (show _ = some (Value.slice A es.length c) by simp [go_sem])
    have hr1 := hr.below (w1 := w2.alloc (Obj.cells #[Value.int IntKind.i64 x, Value.int IntKind.i64 y] 28)) (Below.trans (by (repeat (first | with_reducible exact Below.refl _ _ | with_reducible assumption | with_reducible refine below_drewN0 ?_ _ | with_reducible refine Below.drew ?_ | with_reducible refine Below.alloc ?_ ?_ _ | with_reducible refine Below.setCell ?_ ?_ _ | go_size | exact Below.size (by assumption)))) (hB.mono (by simp)))
    have hbW : Below w.heap.size w (w2.alloc (Obj.cells #[Value.int IntKind.i64 x, Value.int IntKind.i64 y] 28)) := Below.trans (by (repeat (first | with_reducible exact Below.refl _ _ | with_reducible assumption | with_reducible refine below_drewN0 ?_ _ | with_reducible refine Below.drew ?_ | with_reducible refine Below.alloc ?_ ?_ _ | with_reducible refine Below.setCell ?_ ?_ _ | go_size | exact Below.size (by assumption)))) (hB.mono (by simp))
    have hx0 : (w2.alloc (Obj.cells #[Value.int IntKind.i64 x, Value.int IntKind.i64 y] 28)).cell? ⟨w2.heap.size, 0, none⟩ = some (.int .i64 x) := by simp [go_sem]
    have hx1 : (w2.alloc (Obj.cells #[Value.int IntKind.i64 x, Value.int IntKind.i64 y] 28)).cell? ⟨w2.heap.size, 1, none⟩ = some (.int .i64 y) := by simp [go_sem]
    have hs2 : w.heap.size < w2.heap.size := by have := hb1.size; have := hb2.size; simp at *; omega
    have hs3 : w2.heap.size < (w2.alloc (Obj.cells #[Value.int IntKind.i64 x, Value.int IntKind.i64 y] 28)).heap.size := by simp
    clear hb1 hb2 hB hr HRt HT
    generalize w2.alloc (Obj.cells #[Value.int IntKind.i64 x, Value.int IntKind.i64 y] 28) = W at *
    generalize w2.heap.size = g2 at *
    go_loopw [8] (fun i wr => ∃ k : Nat, k ≤ es.length ∧ i = .int .i64 k ∧ Hid (∀ j, j < k → es[j]? ≠ some (x, y)) ∧ Below W.heap.size W wr) (fun i _ => es.length - (intOf i).toNat)
    case atStart => exact ⟨0, Nat.zero_le _, rfl, fun j hj => by omega, Below.refl _ _⟩
    case round =>
      obtain ⟨k, hk, rfl, hok, hb⟩ := hrel
      have hg1' := (hb.cell (p := ⟨w.heap.size, 1, none⟩) (by simp; omega)).trans hg1
      have hx0' := (hb.cell (p := ⟨g2, 0, none⟩) hs3).trans hx0
      have hx1' := (hb.cell (p := ⟨g2, 1, none⟩) hs3).trans hx1
      have hfin : ∀ w', Below W.heap.size wr w' → Below w.heap.size w w' := fun w' h' => hbW.trans ((hb.trans h').mono hbW.size)
      have hWr : W.heap.size ≤ wr.heap.size := hb.size
      by_cases hlt : k < es.length
      · obtain ⟨⟨x', y'⟩, hxy⟩ : ∃ e, es[k]? = some e := ⟨es[k], by simp [hlt]⟩
        obtain ⟨b, o, rfl, hbl, e1, e2⟩ := (hr1.below hb).pair' k _ hxy
        have HXY := Lib.hid hxy
        clear hxy hg1 hx0 hx1 hr1
        by_cases he : x' = x
        · subst he
          by_cases he2 : y' = y
          · subst he2
            go_wp2_with fail
            go_quiet (fail)
            go_wp2_with fail
            go_ret
            exact ⟨by rw [findE_yes es _ k HXY.out hok.out]; rfl, hfin _ (by (repeat (first | with_reducible exact Below.refl _ _ | with_reducible assumption | with_reducible refine below_drewN0 ?_ _ | with_reducible refine Below.drew ?_ | with_reducible refine Below.alloc ?_ ?_ _ | with_reducible refine Below.setCell ?_ ?_ _ | go_size | exact Below.size (by assumption))))⟩
          · have he' : (y' == y) = false := by simpa using he2
            go_wp2_with fail
            go_quiet (fail)
            go_wp2_with fail
            go_roundw
            case rel => exact ⟨k + 1, by omega, by go_num, Lib.hid (succ_ok (p := fun j => es[j]? ≠ some (x', y)) hok.out (by rw [HXY.out]; simpa using he2)), hb.trans (by (repeat (first | with_reducible exact Below.refl _ _ | with_reducible assumption | with_reducible refine below_drewN0 ?_ _ | with_reducible refine Below.drew ?_ | with_reducible refine Below.alloc ?_ ?_ _ | with_reducible refine Below.setCell ?_ ?_ _ | go_size | exact Below.size (by assumption))))⟩
            case measure => simp [intOf]; omega
        · have he' : (x' == x) = false := by simpa using he
          go_wp2_with fail
          go_quiet (fail)
          go_wp2_with fail
          go_roundw
          case rel => exact ⟨k + 1, by omega, by go_num, Lib.hid (succ_ok (p := fun j => es[j]? ≠ some (x, y)) hok.out (by rw [HXY.out]; simp [he])), hb.trans (by (repeat (first | with_reducible exact Below.refl _ _ | with_reducible assumption | with_reducible refine below_drewN0 ?_ _ | with_reducible refine Below.drew ?_ | with_reducible refine Below.alloc ?_ ?_ _ | with_reducible refine Below.setCell ?_ ?_ _ | go_size | exact Below.size (by assumption))))⟩
          case measure => simp [intOf]; omega
      · go_wp2_with fail
        go_ret
        exact ⟨by rw [findE_no es _ (fun j hj => hok.out j (by omega))]; rfl, hfin _ (Below.refl _ _)⟩

theorem refHas (n a b : Int) (es : List (Int × Int)) (A : Option Addr) (c : Nat) (w : World) (hr : Reads w A (pcells es)) (hc : es.length ≤ c) (hm : es.length ≤ 4611686018427387903) :
    Calls Try.prog 34 #[.agg #[.int .i64 n, .slice A es.length c], .int .i64 a, .int .i64 b] w fun e w' => e = .returned (.bool (hasB n es a b)) ∧ Below w.heap.size w w' := by
  have HI := fun W hR => refIndex n a b es A c W hR hc hm
  unfold hasB
  generalize indexB n es a b = r at HI ⊢
  go_enter Try.func34, Try.ntmps34
  go_wp2_with (go_at_call 36; refine (HI _ ?_).mono ?_; exact hr.below (by (repeat (first | with_reducible exact Below.refl _ _ | with_reducible assumption | with_reducible refine below_drewN0 ?_ _ | with_reducible refine Below.drew ?_ | with_reducible refine Below.alloc ?_ ?_ _ | with_reducible refine Below.setCell ?_ ?_ _ | go_size | exact Below.size (by assumption)))); rintro e w1 ⟨rfl, hb1⟩)
  go_ret
  exact ⟨rfl, Below.trans (by (repeat (first | with_reducible exact Below.refl _ _ | with_reducible assumption | with_reducible refine below_drewN0 ?_ _ | with_reducible refine Below.drew ?_ | with_reducible refine Below.alloc ?_ ?_ _ | with_reducible refine Below.setCell ?_ ?_ _ | go_size | exact Below.size (by assumption)))) (hb1.mono (by simp))⟩

theorem refIs_any (n a : Int) (A : Option Addr) (l c : Nat) (w : World) :
    Calls Try.prog 88 #[.agg #[.int .i64 n, .slice A l c], .int .i64 a] w fun e w' => e = .returned (.bool (decide (0 ≤ a ∧ a < n))) ∧ Below w.heap.size w w' := by
  by_cases h : 0 ≤ a
  · by_cases h2 : a < n
    · rw [show decide (0 ≤ a ∧ a < n) = true by simp [h, h2]]
      go_enter Try.func88, Try.ntmps88
      go_wp2
      go_ret
      exact ⟨by simp, by (repeat (first | with_reducible exact Below.refl _ _ | with_reducible assumption | with_reducible refine below_drewN0 ?_ _ | with_reducible refine Below.drew ?_ | with_reducible refine Below.alloc ?_ ?_ _ | with_reducible refine Below.setCell ?_ ?_ _ | go_size | exact Below.size (by assumption)))⟩
    · rw [show decide (0 ≤ a ∧ a < n) = false by simp [h, h2]]
      go_enter Try.func88, Try.ntmps88
      go_wp2
      go_ret
      exact ⟨by simp; try omega, by (repeat (first | with_reducible exact Below.refl _ _ | with_reducible assumption | with_reducible refine below_drewN0 ?_ _ | with_reducible refine Below.drew ?_ | with_reducible refine Below.alloc ?_ ?_ _ | with_reducible refine Below.setCell ?_ ?_ _ | go_size | exact Below.size (by assumption)))⟩
  · rw [show decide (0 ≤ a ∧ a < n) = false by simp [h]]
    go_enter Try.func88, Try.ntmps88
    go_wp2
    go_ret
    exact ⟨by simp, by (repeat (first | with_reducible exact Below.refl _ _ | with_reducible assumption | with_reducible refine below_drewN0 ?_ _ | with_reducible refine Below.drew ?_ | with_reducible refine Below.alloc ?_ ?_ _ | with_reducible refine Below.setCell ?_ ?_ _ | go_size | exact Below.size (by assumption)))⟩
end Go.Proofs.Ytglhdoibglafbaa

/- Walk of reference's Right of layer 23. -/
namespace Go.Proofs.Ytglhdoibglafbaa
open Go Go.RowKit
set_option maxRecDepth 100000
set_option linter.unusedVariables false

def okK (n : Int) (f : List Int) (k : Nat) : Bool := decide ((f.length : Int) = n) && (f.take k).all (fun v => decide (0 ≤ v) && decide (v ≤ 4096))
theorem okK_succ (n : Int) (f : List Int) (k : Nat) (x : Int) (h : f[k]? = some x) : okK n f (k + 1) = (okK n f k && (decide (0 ≤ x) && decide (x ≤ 4096))) := by
  unfold okK
  rw [List.take_add_one, h]
  simp [Bool.and_assoc]

set_option maxHeartbeats 2000000 in
theorem refDegRight (n : Int) (es : List (Int × Int)) (f : List Int) (A Af : Option Addr) (c cf : Nat) (w : World) (hr : Reads w A (pcells es)) (hc : es.length ≤ c) (hm : es.length ≤ 4611686018427387903)
    (hrf : Reads w Af (icells f)) (hcf : f.length ≤ cf) (hmf : f.length ≤ 4611686018427387903) :
    Calls Try.prog 75 #[.agg #[.int .i64 n, .slice A es.length c], .slice Af f.length cf] w fun e w' => e = .returned (.int .i64 (if rightB n es = false then 3 else if okK n f f.length = false then 12 else 0)) ∧ Below w.heap.size w w' := by
  have HR := fun W hR => refRight n es A c W hR hc hm
  cases hB : rightB n es with
  | false =>
    rw [hB] at HR
    clear hB
    go_enter Try.func75, Try.ntmps75
    go_wp2_with (go_at_call 32; go_loud (refine (HR _ (hr.below ?_)).mono ?_; (repeat (first | with_reducible exact Below.refl _ _ | with_reducible assumption | with_reducible refine below_drewN0 ?_ _ | with_reducible refine Below.drew ?_ | with_reducible refine Below.alloc ?_ ?_ _ | with_reducible refine Below.setCell ?_ ?_ _ | go_size | exact Below.size (by assumption))); rintro e w1 ⟨rfl, hb1⟩))
    go_ret
    exact ⟨rfl, Below.trans (by (repeat (first | with_reducible exact Below.refl _ _ | with_reducible assumption | with_reducible refine below_drewN0 ?_ _ | with_reducible refine Below.drew ?_ | with_reducible refine Below.alloc ?_ ?_ _ | with_reducible refine Below.setCell ?_ ?_ _ | go_size | exact Below.size (by assumption)))) (hb1.mono (by simp))⟩
  | true =>
    rw [hB] at HR
    clear hB
    obtain ⟨r, hres⟩ : ∃ r : Int, r = (if true = false then 3 else if okK n f f.length = false then 12 else 0) := ⟨_, rfl⟩
    rw [← hres]
    have HRes := Lib.hid hres
    clear hres
    go_enter Try.func75, Try.ntmps75
    go_upto_region 3 with (go_at_call 32; go_loud (refine (HR _ (hr.below ?_)).mono ?_; (repeat (first | with_reducible exact Below.refl _ _ | with_reducible assumption | with_reducible refine below_drewN0 ?_ _ | with_reducible refine Below.drew ?_ | with_reducible refine Below.alloc ?_ ?_ _ | with_reducible refine Below.setCell ?_ ?_ _ | go_size | exact Below.size (by assumption))); rintro e w1 ⟨rfl, hb1⟩; obtain ⟨x0, x1, _, _, _⟩ := blk2 ((hb1.block w.heap.size (by simp)).trans (heap_alloc_new w _)); have hbw : Below w.heap.size w w1 := Below.trans (by (repeat (first | with_reducible exact Below.refl _ _ | with_reducible assumption | with_reducible refine below_drewN0 ?_ _ | with_reducible refine Below.drew ?_ | with_reducible refine Below.alloc ?_ ?_ _ | with_reducible refine Below.setCell ?_ ?_ _ | go_size | exact Below.size (by assumption)))) (hb1.mono (by simp))))
    have hrf1 := hrf.below hbw
    clear hb1 HR hr
    go_upto_region 4 with fail
    have h0 : ((f.length : Int) == n) = okK n f 0 := by rw [Bool.eq_iff_iff]; simp [okK]
    rw [h0]
    clear h0
    go_wp2_with fail
    go_loopw [5, 6] (fun v5 i wx => ∃ k : Nat, k ≤ f.length ∧ i = .int .i64 k ∧ v5 = .bool (okK n f k) ∧ w1 = wx) (fun _ i _ => f.length - (intOf i).toNat)
    case atStart => exact ⟨0, Nat.zero_le _, rfl, rfl, rfl⟩
    case round =>
      obtain ⟨k, hk, rfl, rfl, rfl⟩ := hrel
      by_cases hlt : k < f.length
      · obtain ⟨x, hx⟩ : ∃ x, f[k]? = some x := ⟨f[k], by simp⟩
        obtain ⟨b, o, rfl, hbl, e1⟩ := hrf1.int k x hx
        have HS := Lib.hid (okK_succ n f k x hx)
        have kI : (k : Int) < (f.length : Int) := by omega
        clear hx
        cases hO : okK n f k with
        | false =>
          rw [hO] at HS
          clear hO
          go_wp2_with fail
          go_roundw
          case rel => exact ⟨k + 1, by omega, by go_num, by rw [HS.out]; rfl, trivial⟩
          case measure => simp [intOf]; omega
        | true =>
          rw [hO] at HS
          clear hO
          by_cases g0 : 0 ≤ x
          · by_cases g1 : x ≤ 4096
            · have HS2 : Hid (okK n f (k + 1) = true) := by unfold Hid; rw [HS.out]; simp [g0, g1]
              clear HS
              go_wp2_with fail
              go_roundw
              case rel => exact ⟨k + 1, by omega, by go_num, by rw [HS2.out], trivial⟩
              case measure => simp [intOf]; omega
            · have HS2 : Hid (okK n f (k + 1) = false) := by unfold Hid; rw [HS.out]; simp [g1]
              clear HS
              go_wp2_with fail
              go_roundw
              case rel => exact ⟨k + 1, by omega, by go_num, by rw [HS2.out], trivial⟩
              case measure => simp [intOf]; omega
          · have HS2 : Hid (okK n f (k + 1) = false) := by unfold Hid; rw [HS.out]; simp [g0]
            clear HS
            go_wp2_with fail
            go_roundw
            case rel => exact ⟨k + 1, by omega, by go_num, by rw [HS2.out], trivial⟩
            case measure => simp [intOf]; omega
      · obtain rfl : k = f.length := by omega
        cases hO : okK n f f.length with
        | false =>
          have hr12 : 12 = r := by rw [HRes.out, hO]; rfl
          subst hr12
          clear hO HRes
          go_wp2_with fail
          go_ret
          exact ⟨rfl, hbw⟩
        | true =>
          have hr0 : 0 = r := by rw [HRes.out, hO]; rfl
          subst hr0
          clear hO HRes
          go_wp2_with fail
          go_ret
          exact ⟨rfl, hbw⟩

theorem degErr_ok (n : Int) (es : List (Int × Int)) (f : List Int) : degErr n es f = if rightB n es = false then 3 else if okK n f f.length = false then 12 else 0 := by
  unfold degErr okK
  rw [List.take_length]
  by_cases hl : (f.length : Int) = n
  · by_cases ha : f.all (fun v => decide (0 ≤ v) && decide (v ≤ 4096)) = true
    · have h1 : idxB badDeg f = -1 := idxB_no _ _ (fun j x hx => by
        have := List.all_eq_true.1 ha x (List.mem_of_getElem? hx)
        simp at this
        unfold badDeg
        simp; omega)
      simp [hl, ha, h1]
    · have h1 : 0 ≤ idxB badDeg f := by
        unfold idxB
        cases h : f.findIdx? badDeg with
        | some i => simp
        | none =>
          refine absurd (List.all_eq_true.2 fun x hx => ?_) ha
          have := List.findIdx?_eq_none_iff.1 h x hx
          unfold badDeg at this
          simp at this ⊢
          omega
      simp [hl, ha, h1]
  · simp [hl]
end Go.Proofs.Ytglhdoibglafbaa

/- The lower bound in a row of edges that rise (no program in sight). -/
namespace Go.Proofs.Ytglhdoibglafbaa
set_option maxRecDepth 100000
set_option linter.unusedVariables false

theorem lb_ex (e : Int × Int) : ∀ (es : List (Int × Int)), es.Pairwise LtE → ∃ p, p ≤ es.length ∧ (∀ j d, j < p → es[j]? = some d → LtE d e) ∧ (∀ j d, p ≤ j → es[j]? = some d → ¬ LtE d e)
  | [], _ => ⟨0, by simp, fun j d h => by omega, fun j d _ h => by simp at h⟩
  | x :: r, h => by
    obtain ⟨h1, h2⟩ := List.pairwise_cons.1 h
    by_cases hx : LtE x e
    · obtain ⟨p, hp, k1, k2⟩ := lb_ex e r h2
      refine ⟨p + 1, by simpa using hp, ?_, ?_⟩
      · rintro (_ | j) d hj hd
        · simp at hd; exact hd ▸ hx
        · exact k1 j d (by omega) (by simpa using hd)
      · rintro (_ | j) d hj hd
        · omega
        · exact k2 j d (by omega) (by simpa using hd)
    · refine ⟨0, by simp, fun j d hj => by omega, ?_⟩
      rintro (_ | j) d hj hd
      · simp at hd; exact hd ▸ hx
      · intro hlt
        exact hx ((h1 d (List.mem_of_getElem? (by simpa using hd))).trans hlt)

theorem cmpE_zero (a b c d : Int) : cmpE a b c d = 0 ↔ a = c ∧ b = d := by
  unfold cmpE
  constructor
  · intro h
    repeat' split at h
    all_goals omega
  · rintro ⟨rfl, rfl⟩
    simp

theorem lb_find {es : List (Int × Int)} {e : Int × Int} {p : Nat} (h1 : ∀ j d, j < p → es[j]? = some d → LtE d e) (h2 : ∀ j d, p ≤ j → es[j]? = some d → ¬ LtE d e) (hs : es.Pairwise LtE) (fnd : Bool)
    (h3 : es[p]? = none → fnd = false) (h4 : ∀ d, es[p]? = some d → fnd = decide (cmpE d.1 d.2 e.1 e.2 = 0)) : findE es e = if fnd = true then (p : Int) else -1 := by
  have hlt : ∀ j, j < p → es[j]? ≠ some e := fun j hj h => LtE.irrefl e (h1 j e hj h)
  cases hp : es[p]? with
  | none =>
    rw [h3 hp, if_neg (by simp)]
    refine findE_no es e fun j hj h => ?_
    by_cases hjp : j < p
    · exact hlt j hjp h
    · have := List.getElem?_eq_none_iff.1 hp
      omega
  | some d =>
    rw [h4 d hp]
    by_cases hd : d = e
    · subst hd
      rw [if_pos (by simp [(cmpE_zero _ _ _ _).2])]
      exact findE_yes es _ p hp hlt
    · rw [if_neg]
      · refine findE_no es e fun j hj h => ?_
        by_cases hjp : j < p
        · exact hlt j hjp h
        by_cases hjp' : j = p
        · subst hjp'
          rw [hp] at h
          exact hd (by simpa using h)
        · have hL : LtE d e := by
            have h5 := List.pairwise_iff_getElem.1 hs p j (List.getElem?_eq_some_iff.1 hp).1 hj (by omega)
            rw [(List.getElem?_eq_some_iff.1 hp).2, (List.getElem?_eq_some_iff.1 h).2] at h5
            exact h5
          exact h2 p d (Nat.le_refl _) hp hL
      · simp only [decide_eq_true_eq, cmpE_zero]
        exact fun hh => hd (Prod.ext hh.1 hh.2)

end Go.Proofs.Ytglhdoibglafbaa

/- Neighbours in a row of edges (no program in sight). -/
namespace Go.Proofs.Ytglhdoibglafbaa
set_option maxRecDepth 100000
set_option linter.unusedVariables false

def lowL (es : List (Int × Int)) (v : Int) : List Int := (es.filter fun e => decide (e.2 = v)).map (·.1)
def highL (es : List (Int × Int)) (v : Int) : List Int := (es.filter fun e => decide (e.1 = v)).map (·.2)
def nearL (es : List (Int × Int)) (v : Int) : List Int := lowL es v ++ highL es v
/-- What Near tells. -/
def nearB (n : Int) (es : List (Int × Int)) (v : Int) : List Int := if rightB n es = true ∧ 0 ≤ v ∧ v < n then nearL es v else []

theorem take_one (es : List (Int × Int)) (k : Nat) (e : Int × Int) (h : es[k]? = some e) : es.take (k + 1) = es.take k ++ [e] := by
  obtain ⟨hl, rfl⟩ := List.getElem?_eq_some_iff.1 h
  exact (List.take_succ_eq_append_getElem hl)
theorem lowL_one (es : List (Int × Int)) (k : Nat) (a b : Int) (h : es[k]? = some (a, b)) (v : Int) : lowL (es.take (k + 1)) v = if b = v then lowL (es.take k) v ++ [a] else lowL (es.take k) v := by
  rw [take_one es k _ h]; unfold lowL; by_cases hb : b = v <;> simp [hb]
theorem highL_one (es : List (Int × Int)) (k : Nat) (a b : Int) (h : es[k]? = some (a, b)) (v : Int) : highL (es.take (k + 1)) v = if a = v then highL (es.take k) v ++ [b] else highL (es.take k) v := by
  rw [take_one es k _ h]; unfold highL; by_cases hb : a = v <;> simp [hb]
theorem lowL_length (es : List (Int × Int)) (v : Int) : (lowL es v).length ≤ es.length := by unfold lowL; rw [List.length_map]; exact List.length_filter_le _ _
theorem highL_length (es : List (Int × Int)) (v : Int) : (highL es v).length ≤ es.length := by unfold highL; rw [List.length_map]; exact List.length_filter_le _ _
theorem nearL_length (es : List (Int × Int)) (v : Int) : (nearL es v).length ≤ es.length + es.length := by
  have := lowL_length es v; have := highL_length es v; unfold nearL; rw [List.length_append]; omega

theorem mem_lowL {es : List (Int × Int)} {v w : Int} : w ∈ lowL es v ↔ (w, v) ∈ es := by
  unfold lowL; simp only [List.mem_map, List.mem_filter, decide_eq_true_eq]
  constructor
  · rintro ⟨⟨a, b⟩, ⟨h1, h2⟩, rfl⟩; simp at h2; subst h2; exact h1
  · intro h; exact ⟨_, ⟨h, rfl⟩, rfl⟩
theorem mem_highL {es : List (Int × Int)} {v w : Int} : w ∈ highL es v ↔ (v, w) ∈ es := by
  unfold highL; simp only [List.mem_map, List.mem_filter, decide_eq_true_eq]
  constructor
  · rintro ⟨⟨a, b⟩, ⟨h1, h2⟩, rfl⟩; simp at h2; subst h2; exact h1
  · intro h; exact ⟨_, ⟨h, rfl⟩, rfl⟩
theorem mem_nearL {es : List (Int × Int)} {v w : Int} : w ∈ nearL es v ↔ (w, v) ∈ es ∨ (v, w) ∈ es := by
  unfold nearL; rw [List.mem_append, mem_lowL, mem_highL]
theorem nearL_symm {es : List (Int × Int)} {v w : Int} (h : w ∈ nearL es v) : v ∈ nearL es w := mem_nearL.2 (mem_nearL.1 h).symm

/-- The rows of all vertices. -/
def rowsF (n : Nat) (f : Int → List Int) : List (List Int) := (List.range n).map fun v : Nat => f (v : Int)
theorem rowsF_length (n : Nat) (f : Int → List Int) : (rowsF n f).length = n := by simp [rowsF]
theorem rowsF_get (n : Nat) (f : Int → List Int) (i : Nat) (h : i < n) : (rowsF n f)[i]? = some (f i) := by simp [rowsF, h]
theorem rowsF_set (n : Nat) (f g : Int → List Int) (i : Nat) (hi : i < n) (l : List Int) (hl : l = g i) (hg : ∀ v : Nat, v ≠ i → g v = f v) : (rowsF n f).set i l = rowsF n g := by
  apply List.ext_getElem?
  intro j
  rw [List.getElem?_set]
  by_cases hj : i = j
  · subst hj; simp [rowsF, hi, hl]
  · rw [if_neg hj]
    simp only [rowsF, List.getElem?_map]
    by_cases hjn : j < n
    · simp [hjn, hg j (fun h => hj h.symm)]
    · simp [hjn]
theorem rowsF_congr (n : Nat) (f g : Int → List Int) (h : ∀ v : Nat, v < n → f v = g v) : rowsF n f = rowsF n g := by
  unfold rowsF
  apply List.map_congr_left
  intro v hv
  exact h v (List.mem_range.1 hv)

theorem rowsF_nil (n : Nat) (f : Int → List Int) (h : ∀ v, f v = []) : rowsF n f = List.replicate n [] := by
  apply List.ext_getElem?
  intro j
  simp only [rowsF, List.getElem?_map, List.getElem?_replicate]
  by_cases hj : j < n
  · simp [hj, h]
  · simp [hj]
theorem nearL_nil {n : Int} {es : List (Int × Int)} (hR : rightB n es = true) {v : Int} (hv : v < 0 ∨ n ≤ v) : nearL es v = [] := by
  apply List.eq_nil_iff_forall_not_mem.2
  intro w hw
  have hP := (right_iff n es).1 hR
  rcases mem_nearL.1 hw with h | h
  · have := hP.ok _ h; simp at this; omega
  · have := hP.ok _ h; simp at this; omega
theorem nearB_right {n : Int} {es : List (Int × Int)} (hR : rightB n es = true) (v : Int) : nearB n es v = nearL es v := by
  unfold nearB
  by_cases hv : 0 ≤ v ∧ v < n
  · rw [if_pos ⟨hR, hv⟩]
  · rw [if_neg (fun h => hv h.2), nearL_nil hR (by omega)]

end Go.Proofs.Ytglhdoibglafbaa

/- Rows of rows of numbers, each the call's own (no program in sight). -/
namespace Go.Proofs.Ytglhdoibglafbaa
open Go Go.RowKit
set_option maxRecDepth 100000
set_option linter.unusedVariables false

/-- Block B holds rows of numbers, each the call's own, no two in one block. -/
structure RowsI (w : World) (T e : TypeId) (base B : Nat) (vs : List Value) (ls : List (List Int)) : Prop where
  blk : w.heap[B]? = some (.cells vs.toArray T (0, 0))
  len : vs.length = ls.length
  own : ∀ (i : Nat) v l, vs[i]? = some v → ls[i]? = some l → w.ownsRow base e 1 v l.length (icells l)
  apart : ∀ (i j : Nat) v v' g, i ≠ j → vs[i]? = some v → vs[j]? = some v' → v.ownBlock = some g → v'.ownBlock ≠ some g
  hB : B < base

theorem heap_lt {w : World} {g : Nat} {o : Obj} (h : w.heap[g]? = some o) : g < w.heap.size := by
  rcases Nat.lt_or_ge g w.heap.size with hl | hl
  · exact hl
  · rw [Array.getElem?_eq_none hl] at h; cases h

section
variable {w w' : World} {T e : TypeId} {base B : Nat} {vs : List Value} {ls : List (List Int)}

theorem RowsI.lt (h : RowsI w T e base B vs ls) : B < w.heap.size := heap_lt h.blk

theorem RowsI.get (h : RowsI w T e base B vs ls) (i : Nat) (l : List Int) (hl : ls[i]? = some l) : ∃ v A c, vs[i]? = some v ∧ v = .slice A l.length c ∧ l.length ≤ c ∧ Reads w A (icells l) ∧ w.ownsRow base e 1 v l.length (icells l) ∧ w.cell? ⟨B, i, none⟩ = some v := by
  have hi : i < vs.length := by rw [h.len]; exact (List.getElem?_eq_some_iff.1 hl).1
  have hv : vs[i]? = some vs[i] := by simp [hi]
  have ho := h.own i _ l hv hl
  obtain ⟨A, c, h1, h2, h3⟩ := own_reads0 ho
  refine ⟨_, A, c, hv, h1, h2, h3, ho, ?_⟩
  rw [cell_of_row w B i _ T (0, 0) h.blk]
  simp [hi]

theorem RowsI.frozen (h : RowsI w T e base B vs ls) (i : Nat) : w.frozen? ⟨B, i, none⟩ = false := by simp [World.frozen?, h.blk]

theorem RowsI.far (h : RowsI w T e base B vs ls) (hk : ∀ g, g < w.heap.size → w'.heap[g]? = w.heap[g]?) : RowsI w' T e base B vs ls :=
  ⟨(hk B h.lt).trans h.blk, h.len, fun i v l hv hl => own_far (h.own i v l hv hl) fun g hg => hk g (own_lt0 (h.own i v l hv hl) g hg).2, h.apart, h.hB⟩

theorem RowsI.below (h : RowsI w T e base B vs ls) {B' : Nat} (hb : Below B' w w') (hB : w.heap.size ≤ B') : RowsI w' T e base B vs ls :=
  h.far fun g hg => hb.block g (Nat.lt_of_lt_of_le hg hB)

/-- One row has grown, and is stored back. -/
theorem RowsI.store (h : RowsI w T e base B vs ls) (i : Nat) {v v' : Value} {l' : List Int} (hv : vs[i]? = some v) (ho : w'.ownsRow base e 1 v' l'.length (icells l')) (hg : w.grownBy w' v.ownBlock)
    (hat : v'.ownBlock = v.ownBlock ∨ v'.ownBlock = some w.heap.size) : RowsI (w'.setCell ⟨B, i, none⟩ v') T e base B (vs.set i v') (ls.set i l') := by
  have hvi := (List.getElem?_eq_some_iff.1 hv).1
  have hob : ∀ (j : Nat) (u : Value) (l : List Int) (g : Nat), vs[j]? = some u → ls[j]? = some l → u.ownBlock = some g → base ≤ g ∧ g < w.heap.size := fun j u l g hu hl hg => own_lt0 (h.own j u l hu hl) g hg
  have hls : ∀ (j : Nat) (u : Value), vs[j]? = some u → ∃ l, ls[j]? = some l := fun j u hu => ⟨ls[j]'(by rw [← h.len]; exact (List.getElem?_eq_some_iff.1 hu).1), by simp⟩
  obtain ⟨l0, hl0⟩ := hls i v hv
  have hBne : some B ≠ v.ownBlock := fun hh => by have := (hob i v l0 B hv hl0 hh.symm).1; have := h.hB; omega
  have hBw' : w'.heap[B]? = some (.cells vs.toArray T (0, 0)) := (hg.block B h.lt hBne).trans h.blk
  have hset : ∀ g, g ≠ B → (w'.setCell ⟨B, i, none⟩ v').heap[g]? = w'.heap[g]? := fun g hgB => Below.heap_setCell _ _ _ _ hgB
  refine ⟨?_, by simp [h.len], ?_, ?_, h.hB⟩
  · simp [World.setCell, Array.getElem?_modify, hBw']
  · intro j u l hu hl
    by_cases hj : i = j
    · subst hj
      rw [List.getElem?_set_self hvi] at hu
      rw [List.getElem?_set_self (by rw [← h.len]; exact hvi)] at hl
      cases hu; cases hl
      exact own_far ho fun g hg' => hset g (by have := (own_lt0 ho g hg').1; have := h.hB; omega)
    · rw [List.getElem?_set_ne hj] at hu hl
      refine own_far (h.own j u l hu hl) fun g hg' => ?_
      have hh := hob j u l g hu hl hg'
      rw [hset g (by have := h.hB; omega)]
      exact hg.block g hh.2 (fun hx => h.apart i j v u g hj hv hu hx.symm hg')
  · intro j k u u' g hjk hu hu' hx
    by_cases hj : i = j
    · subst hj
      rw [List.getElem?_set_self hvi] at hu
      cases hu
      rw [List.getElem?_set_ne hjk] at hu'
      obtain ⟨lk, hlk⟩ := hls k u' hu'
      rcases hat with hat | hat
      · exact h.apart i k v u' g hjk hv hu' (hat ▸ hx)
      · intro hy
        have := (hob k u' lk g hu' hlk hy).2
        rw [hat] at hx
        cases hx
        omega
    · rw [List.getElem?_set_ne hj] at hu
      by_cases hk : i = k
      · subst hk
        rw [List.getElem?_set_self hvi] at hu'
        cases hu'
        obtain ⟨lj, hlj⟩ := hls j u hu
        rcases hat with hat | hat
        · rw [hat]; exact h.apart j i u v g hjk hu hv hx
        · intro hy
          have := (hob j u lj g hu hlj hx).2
          rw [hat] at hy
          cases hy
          omega
      · rw [List.getElem?_set_ne hk] at hu'
        exact h.apart j k u u' g hjk hu hu' hx

theorem made_nil (n : Nat) : madeCells #[.slice none 0 0] n = (List.replicate n (.slice none 0 0 : Value)).toArray := by
  apply Array.ext
  · simp [madeCells]
  · intro i h1 h2
    simp [madeCells, Nat.mod_one]

theorem RowsI.made {n : Nat} (hw : w.heap[B]? = some (.cells (madeCells #[.slice none 0 0] n) T (0, 0))) (hB : B < base) : RowsI w T e base B (List.replicate n (.slice none 0 0)) (List.replicate n []) := by
  refine ⟨by rw [hw, made_nil], by simp, ?_, ?_, hB⟩
  · intro i v l hv hl
    rw [List.getElem?_replicate] at hv hl
    split at hv
    · rw [if_pos ‹_›] at hl
      cases hv; cases hl
      exact own_nil0 _ _ _ _
    · cases hv
  · intro i j v v' g _ hv _ hg
    rw [List.getElem?_replicate] at hv
    split at hv
    · cases hv; simp [Value.ownBlock] at hg
    · cases hv
end
end Go.Proofs.Ytglhdoibglafbaa

/- A row of the call's own: a cell read, a cell written (no program in sight). -/
namespace Go.Proofs.Ytglhdoibglafbaa
open Go Go.RowKit
set_option maxRecDepth 100000
set_option linter.unusedVariables false

section
variable {w : World} {base e size : Nat} {v : Value} {n : Nat} {xs : List Value}

/-- Where an own row that is not empty lies. -/
theorem own_block (h : w.ownsRow base e size v n xs) (hn : 0 < n) : ∃ g c, v = .slice (some ⟨g, 0, none⟩) n c ∧ n ≤ c ∧ base ≤ g ∧ g < w.heap.size ∧
    (∀ j u, xs[j]? = some u → w.cell? ⟨g, j, none⟩ = some u) ∧ (∀ j, w.frozen? ⟨g, j, none⟩ = false) := by
  obtain ⟨h0, h2⟩ := h
  rcases h2 with ⟨rfl, rfl⟩ | ⟨g, cap, cur, rfl, hg, hh, hnc, _, hsz, htk⟩
  · omega
  · refine ⟨g, cap, rfl, hnc, hg, ?_, fun j u hu => ?_, fun j => by simp [World.frozen?, hh]⟩
    · rcases Nat.lt_or_ge g w.heap.size with hl | hl
      · exact hl
      · rw [Array.getElem?_eq_none hl] at hh; cases hh
    · rw [cell_of_row w g j cur e (0, 0) hh]
      rw [← htk, List.getElem?_take] at hu
      split at hu
      · simpa using hu
      · cases hu

/-- A cell of an own row is written. -/
theorem own_write {g c : Nat} (h : w.ownsRow base e size (.slice (some ⟨g, 0, none⟩) n c) n xs) (j : Nat) (hj : j < xs.length) (u : Value) :
    (w.setCell ⟨g, j, none⟩ u).ownsRow base e size (.slice (some ⟨g, 0, none⟩) n c) n (xs.set j u) := by
  obtain ⟨h0, h2⟩ := h
  refine ⟨by simpa using h0, ?_⟩
  rcases h2 with ⟨hv, rfl⟩ | ⟨g', cap, cur, hv, hg, hh, hnc, hcm, hsz, htk⟩
  · cases hv
  · simp only [Value.slice.injEq, Option.some.injEq, Addr.mk.injEq, and_true, true_and] at hv
    obtain ⟨rfl, rfl⟩ := hv
    refine .inr ⟨g, c, cur.setIfInBounds j u, rfl, hg, ?_, hnc, hcm, by simpa using hsz, ?_⟩
    · simp [World.setCell, Array.getElem?_modify, hh]
    · rw [Array.toList_setIfInBounds, List.take_set, htk]
theorem own_reads1 {A : Option Addr} {c m : Nat} (h : w.ownsRow base e size (.slice A m c) n xs) : Reads w A xs ∧ n ≤ c ∧ m = n := by
  obtain ⟨A', c', hv, h1, h2⟩ := own_reads0 h
  simp only [Value.slice.injEq] at hv
  obtain ⟨rfl, rfl, rfl⟩ := hv
  exact ⟨h2, h1, rfl⟩
end

theorem addr_map (b o k : Nat) : ((some ⟨b, o, none⟩ : Option Addr).map (·.add k)) = some ⟨b, o + k, none⟩ := by
  have : (⟨b, o, none⟩ : Addr).add k = ⟨b, o + k, none⟩ := by unfold Addr.add; split <;> simp_all
  simp [this]
theorem pcells_set0 (l : List (Int × Int)) (k : Nat) (x y x' : Int) (h : l[k]? = some (x, y)) : (pcells l).set (k * 2) (.int .i64 x') = pcells (l.set k (x', y)) := by
  induction l generalizing k with
  | nil => simp at h
  | cons a l ih =>
    cases k with
    | zero => simp at h; subst h; simp [pcells]
    | succ k =>
      have := ih k (by simpa using h)
      simp only [pcells, List.flatMap_cons, List.set_cons_succ] at this ⊢
      rw [← this, show (k + 1) * 2 = k * 2 + 1 + 1 by omega]
      simp
theorem pcells_set1 (l : List (Int × Int)) (k : Nat) (x y y' : Int) (h : l[k]? = some (x, y)) : (pcells l).set (k * 2 + 1) (.int .i64 y') = pcells (l.set k (x, y')) := by
  induction l generalizing k with
  | nil => simp at h
  | cons a l ih =>
    cases k with
    | zero => simp at h; subst h; simp [pcells]
    | succ k =>
      have := ih k (by simpa using h)
      simp only [pcells, List.flatMap_cons, List.set_cons_succ] at this ⊢
      rw [← this, show (k + 1) * 2 + 1 = k * 2 + 1 + 1 + 1 by omega]
      simp
end Go.Proofs.Ytglhdoibglafbaa
