/- Walk of forest.New, its record. -/
import Derived.Test.YtgddfmfiiodgbaaU21
namespace Go.Proofs.Ytgddfmfiiodgbaa
open Go Go.RowKit
set_option maxRecDepth 100000
set_option linter.unusedVariables false
set_option linter.unusedSimpArgs false

theorem nspec_row (j : Nat) (h2 : 2 ≤ j) (h3 : j ≤ 12) : (2 * j - 1, 2 * j + 9, NK.row j) ∈ nspec := by
  have : j = 2 ∨ j = 3 ∨ j = 4 ∨ j = 5 ∨ j = 6 ∨ j = 7 ∨ j = 8 ∨ j = 9 ∨ j = 10 ∨ j = 11 ∨ j = 12 := by omega
  rcases this with rfl | rfl | rfl | rfl | rfl | rfl | rfl | rfl | rfl | rfl | rfl <;> simp [nspec]
theorem run_buildV {P : Program} {a : Act} {w w' : World} {dst : Option Tmp} {t ty : TypeId} {ps : Array (Nat × Operand)} {pos : String} {after : Array Edge} {g : Option (Nat × Bool)} {v : Value} {vs : Array (Nat × Value)} (hp : (ps.map fun p => (p.1, a.eval p.2)) = vs) (h : (Instr.build t vs).run P w = .ok v w') :
    (execOp a.eval ⟨dst, .build t ps, ty, pos, after, g⟩).run P w = .ok (.value v) w' := by
  subst hp; simp [execOp, h]

section
variable {w0 : World} {nA mA : Option Addr} {n nc mc : Nat} {a0 : Act} {bl : Nat → Nat} {f : Nat} {d : Nat → Bool} {a : Act} {w : World}

/-- Where rows lie that were made. -/
theorem NInv.blt (h : NInv w0 (.slice nA n nc) (.slice mA n mc) n a0 bl f d a w) {j : Nat} (h2 : 2 ≤ j) (h3 : j ≤ 12) (hd : d (2 * j - 1) = true) : bl j < w.heap.size :=
  heap_lt0 (h.holds _ (nspec_row j h2 h3) hd).2.1

theorem NInv.val (h : NInv w0 (.slice nA n nc) (.slice mA n mc) n a0 bl f d a w) (k t : Nat) (kd : NK) (hm : (k, t, kd) ∈ nspec) (hd : d k = false) (hk : k % 2 = 0 ∨ k = 1) (hk2 : k ≤ 22) (v : Value) (hv : NHolds w0 (.slice nA n nc) (.slice mA n mc) n bl f w v kd) :
    NInv w0 (.slice nA n nc) (.slice mA n mc) n a0 bl f (updB d k) (a.put (some t) v) w :=
  h.core (k, t, kd) hm hd v w bl f (fun _ _ => rfl) h.below (fun _ _ _ _ => rfl) (fun _ => rfl) hv (fun j j' a1 a2 _ _ e _ => absurd e (by simp only; omega)) (fun e => absurd e (by simp only; omega)) (fun e => absurd e (by simp only; omega)) (fun e => absurd e (by simp only; omega))

theorem NInv.mkrow (h : NInv w0 (.slice nA n nc) (.slice mA n mc) n a0 bl f d a w) (j : Nat) (h2 : 2 ≤ j) (h3 : j ≤ 12) (k t : Nat) (hk : k = 2 * j - 1) (ht : t = 2 * j + 9) (hd : d k = false) :
    NInv w0 (.slice nA n nc) (.slice mA n mc) n a0 (upd bl j w.heap.size) f (updB d k) (a.put (some t) (.slice (some ⟨w.heap.size, 0, none⟩) n n)) (w.alloc (.cells (FRow (newS (fun _ => none) 0) (fun _ => 0) (fun _ => 0) n j).toArray (FTy j))) := by
  subst hk ht
  refine h.core (2 * j - 1, 2 * j + 9, .row j) (nspec_row j h2 h3) hd _ _ (upd bl j w.heap.size) f (fun k hk => Below.heap_alloc w _ k hk) (h.below.alloc h.below.size _) (fun j' b2 b3 hdj => upd_ne _ _ (fun e => by rw [e] at hdj; rw [hdj] at hd; cases hd)) (fun _ => rfl)
    ⟨by rw [upd_same], by rw [upd_same]; exact heap_alloc_new w _, by rw [upd_same]; exact h.below.size⟩ (fun j1 j' a1 a2 b1 b2 e hdj => ?_) (fun e => absurd e (by simp only; omega)) (fun e => absurd e (by simp only; omega)) (fun e => absurd e (by simp only; omega))
  obtain rfl : j1 = j := by simp only at e; omega
  have hne : j' ≠ j1 := fun e => by rw [e] at hdj; rw [hdj] at hd; cases hd
  rw [upd_same, upd_ne _ _ hne]
  have := h.blt b1 b2 hdj
  omega
end

/-- What the record's making leaves. -/
def NewP (w0 : World) (nA mA : Option Addr) (n nc mc : Nat) (f : Nat) (w : World) : Prop :=
  ∃ bl : Nat → Nat, w.heap[f]? = some (.cells (fcells (.slice nA n nc) (.slice mA n mc) n bl).toArray 157 (0, 0)) ∧ w0.heap.size ≤ f ∧
    (∀ j, 2 ≤ j → j ≤ 12 → bl j ≠ f ∧ w0.heap.size ≤ bl j ∧ w.heap[bl j]? = some (.cells (FRow (newS (fun _ => none) 0) (fun _ => 0) (fun _ => 0) n j).toArray (FTy j) (0, 0))) ∧
    (∀ j j', 2 ≤ j → j ≤ 12 → 2 ≤ j' → j' ≤ 12 → bl j = bl j' → j = j') ∧ Below w0.heap.size w0 w


def setAll : List Nat → Array Value → Array Value → Array Value
  | [], _, base => base
  | t :: ts, src, base => (setAll ts src base).setIfInBounds t (src.getD t undef)
theorem setAll_spec : ∀ (ts : List Nat) (src base : Array Value), (setAll ts src base).size = base.size ∧ ∀ i, i < base.size → (setAll ts src base).getD i undef = if i ∈ ts then src.getD i undef else base.getD i undef
  | [], src, base => ⟨rfl, fun i hi => by simp [setAll]⟩
  | t :: ts, src, base => by
    obtain ⟨h1, h2⟩ := setAll_spec ts src base
    refine ⟨by simp [setAll, h1], fun i hi => ?_⟩
    simp only [setAll]
    by_cases hit : i = t
    · subst hit
      rw [if_pos (by simp)]
      simp [h1, hi]
    · have e : ((setAll ts src base).setIfInBounds t (src.getD t undef)).getD i undef = (setAll ts src base).getD i undef := by
        simp [Array.getElem?_setIfInBounds_ne (Ne.symm hit)]
      rw [e, h2 i hi]
      simp [hit]
theorem setAll_eq (ts : List Nat) (src base : Array Value) (hs : src.size = base.size) (h : ∀ t, t ∉ ts → src.getD t undef = base.getD t undef) : src = setAll ts src base := by
  obtain ⟨h1, h2⟩ := setAll_spec ts src base
  apply Array.ext
  · rw [h1, hs]
  · intro i hi hi'
    have h3 := h2 i (by omega)
    have e1 : (setAll ts src base).getD i undef = (setAll ts src base)[i] := by simp [hi']
    have e2 : src.getD i undef = src[i] := by simp [hi]
    have e3 : src.getD i undef = (setAll ts src base).getD i undef := by
      rw [h3]
      by_cases hm : i ∈ ts
      · rw [if_pos hm]
      · rw [if_neg hm]; exact h i hm
    exact e2.symm.trans (e3.trans e1)

def upN (k : Nat) : Nat → Nat := fun v => if v < k then v else 0

theorem NewP.mem {w0 w : World} {nA mA : Option Addr} {n nc mc f : Nat} {M : Nat → Option Nat} (h : NewP w0 nA mA n nc mc f w) (hn : n ≤ 1000000) (hr : Reads w0 mA (icells (mateL n M))) (hc : n ≤ mc) (hml : ∀ v x, v < n → M v = some x → x < n) :
    ∃ L : FLay, L.f = f ∧ FMem w0 w n M L (newS M 0) (upN 0) (fun _ => 0) := by
  obtain ⟨bl, h1, h2, h3, h4, h5⟩ := h
  refine ⟨⟨f, bl, .slice nA n nc, mA, mc, none, 0, 0⟩, rfl, h1, fun i a1 a2 => ?_, .inl ⟨rfl, rfl, rfl, rfl⟩, fun i j a1 a2 b1 b2 e => h4 i j a1 a2 b1 b2 e, fun i a1 a2 => (h3 i a1 a2).1, fun g e => (by cases e), ?_, hr, hc, h5, ?_, hn, hml, ?_, fun v _ => Nat.le_refl _⟩
  · have e : FRow (newS M 0) (upN 0) (fun _ => 0) n i = FRow (newS (fun _ => none) 0) (fun _ => 0) (fun _ => 0) n i := by
      match i with
      | 0 | 1 | 4 | 5 | 6 | 8 | 9 | 12 => rfl
      | 2 => exact rowOf_congr fun v _ => by simp [newS]
      | 3 => exact rowOf_congr fun v _ => by simp [newS]
      | 7 => exact rowOf_congr fun v _ => by simp [newS]
      | 10 => exact rowOf_congr fun v _ => by simp [upN]
      | 11 => exact rowOf_congr fun v _ => by simp [newS]
      | k + 13 => rfl
    rw [e]
    exact (h3 i a1 a2).2.2
  · rintro k (rfl | ⟨i, a1, a2, rfl⟩ | e)
    · exact h2
    · exact (h3 i a1 a2).2.1
    · cases e
  · refine ⟨fun v hv => by show 0 < n; omega, fun v r hv hr => ?_, fun v hv => by show 0 < n ∧ 0 < n; omega, fun v hv => ?_, fun v hv => (by cases hv), by show 0 ≤ _; omega, Nat.le_refl _, by show 0 ≤ _; omega, fun v hv => ?_⟩
    · simp [newS] at hr; omega
    · simp [newS]; omega
    · simp [newS]
  · exact UpOk.new n 0

theorem newS_wait (M : Nat → Option Nat) (k : Nat) : (newS M k).wait.length ≤ k := by
  have := List.length_filter_le (fun v => (M v).isNone) (List.range k)
  simpa [newS] using this

theorem newS_some {M : Nat → Option Nat} {k x : Nat} (h : M k = some x) : newS M (k + 1) = { newS M k with cls := (newS M (k + 1)).cls, base := upd (newS M k).base k k, root := upd (newS M k).root k none } := by
  have e1 : (newS M (k + 1)).label = (newS M k).label := by
    funext v
    by_cases hv : v = k
    · subst hv; simp [newS, h]
    · have : v < k + 1 ↔ v < k := by omega
      simp [newS, this]
  have e2 : (newS M (k + 1)).outer = (newS M k).outer := by
    funext v
    by_cases hv : v = k
    · subst hv; simp [newS, h]
    · have : v < k + 1 ↔ v < k := by omega
      simp [newS, this]
  have e3 : (newS M (k + 1)).base = upd (newS M k).base k k := by
    funext v
    by_cases hv : v = k
    · subst hv; simp [newS, upd]
    · have : v < k + 1 ↔ v < k := by omega
      simp [newS, upd, hv, this]
  have e4 : (newS M (k + 1)).root = upd (newS M k).root k none := by
    funext v
    by_cases hv : v = k
    · subst hv; simp [newS, upd, h]
    · have : v < k + 1 ↔ v < k := by omega
      simp [newS, upd, hv, this]
  have e5 : (newS M (k + 1)).wait = (newS M k).wait := by simp [newS, List.range_succ, h]
  have e : newS M (k + 1) = { newS M k with label := (newS M (k + 1)).label, outer := (newS M (k + 1)).outer, cls := (newS M (k + 1)).cls, base := (newS M (k + 1)).base, root := (newS M (k + 1)).root, wait := (newS M (k + 1)).wait } := rfl
  rw [e1, e2, e3, e4, e5] at e
  exact e
theorem newS_none {M : Nat → Option Nat} {k : Nat} (h : M k = none) : newS M (k + 1) = ({ newS M k with cls := (newS M (k + 1)).cls, base := upd (newS M k).base k k, root := upd (upd (newS M k).root k none) k (some k) } : FoS).raise k 0 1 := by
  have e1 : (newS M (k + 1)).label = if (newS M k).label k = 0 then upd (newS M k).label k 1 else (newS M k).label := by
    funext v
    have h0 : (newS M k).label k = 0 := by simp [newS]
    rw [if_pos h0]
    by_cases hv : v = k
    · subst hv; simp [newS, h, upd]
    · have : v < k + 1 ↔ v < k := by omega
      simp [newS, this, upd, hv]
  have e2 : (newS M (k + 1)).outer = upd (newS M k).outer k true := by
    funext v
    by_cases hv : v = k
    · subst hv; simp [newS, h, upd]
    · have : v < k + 1 ↔ v < k := by omega
      simp [newS, this, upd, hv]
  have e3 : (newS M (k + 1)).base = upd (newS M k).base k k := by
    funext v
    by_cases hv : v = k
    · subst hv; simp [newS, upd]
    · have : v < k + 1 ↔ v < k := by omega
      simp [newS, upd, hv, this]
  have e4 : (newS M (k + 1)).root = upd (upd (newS M k).root k none) k (some k) := by
    funext v
    by_cases hv : v = k
    · subst hv; simp [newS, upd, h]
    · have : v < k + 1 ↔ v < k := by omega
      simp [newS, upd, hv, this]
  have e5 : (newS M (k + 1)).wait = (newS M k).wait ++ [k] := by simp [newS, List.range_succ, h]
  have e6 : (newS M (k + 1)).even = upd (newS M k).even k 0 := by
    funext v; unfold upd; split <;> rfl
  have e : newS M (k + 1) = { newS M k with label := (newS M (k + 1)).label, outer := (newS M (k + 1)).outer, even := (newS M (k + 1)).even, cls := (newS M (k + 1)).cls, base := (newS M (k + 1)).base, root := (newS M (k + 1)).root, wait := (newS M (k + 1)).wait } := rfl
  rw [e1, e2, e3, e4, e5, e6] at e
  exact e

theorem FMem.new6 {w0 w : World} {n : Nat} {M : Nat → Option Nat} {L : FLay} {k : Nat} (h : FMem w0 w n M L (newS M k) (upN k) (fun _ => 0)) (hk : k < n) :
    FMem w0 (((w.setCell ⟨L.b 10, k, none⟩ (.int .i64 (k : Int))).setCell ⟨L.b 11, k, none⟩ (.int .i64 (k : Int))).setCell ⟨L.b 7, k, none⟩ (.int .i64 (-1))) n M L { newS M k with cls := (newS M (k + 1)).cls, base := upd (newS M k).base k k, root := upd (newS M k).root k none } (upN (k + 1)) (fun _ => 0) := by
  have eu : upd (upN k) k k = upN (k + 1) := by
    funext v
    by_cases hv : v = k
    · subst hv; simp [upN, upd]
    · have : v < k + 1 ↔ v < k := by omega
      simp [upN, upd, hv, this]
  have h1 := h.set 10 k (.int .i64 (k : Int)) (by omega) (by omega) (S' := { newS M k with cls := (newS M (k + 1)).cls }) (u' := upN (k + 1)) (mk' := fun _ => 0) (by rw [← eu]; show rowOf n _ = (rowOf n _).set _ _; rw [rowOf_set, upd_map (upN k) (fun v => Value.int .i64 (v : Int))]) (fun j _ _ hj => by rw [← eu]; exact FRow_up _ (upN k) _ n k k j hj) rfl rfl rfl
    ⟨h.bd.pred, h.bd.root, h.bd.bridge, h.bd.base, h.bd.wait, h.bd.len, h.bd.turn, h.bd.looks, h.bd.label⟩ (UpOk.new n (k + 1)) (fun v _ => Nat.le_refl _)
  exact (h1.s11 k k hk).s7 k none (fun r hr => by cases hr)

set_option maxHeartbeats 2000000 in
theorem fnew_any {n : Nat} {nA mA : Option Addr} {nc mc : Nat} {M : Nat → Option Nat} {w : World} (hn : n ≤ 1000000) (hr : Reads w mA (icells (mateL n M))) (hc : n ≤ mc) (hml : ∀ v x, v < n → M v = some x → x < n) :
    Calls Try.prog 137 #[.slice nA n nc, .slice mA n mc] w fun e w' => ∃ L, e = .returned (.pointer (some ⟨L.f, 0, none⟩)) ∧ FW w w' n M L (newS M n) ∧ Below w.heap.size w w' := by
  go_enter Try.func137, Try.ntmps137
  go_upto_region 2 with fail
  go_cut [6] (fun v6 wc => ∃ f, v6 = .pointer (some ⟨f, 0, none⟩) ∧ Hid (NewP w nA mA n nc mc f wc))
  case first =>
    rename_i J K2 hJ hK2
    generalize ha0 : (Act.mk _ _) = a0
    have hsz : a0.tmps.size = 77 := by rw [← ha0]; rfl
    have hdf : a0.defers = [] := by rw [← ha0]
    have hs0 : a0.tmps.getD 0 undef = .slice nA n nc := by rw [← ha0]; rfl
    have hs1 : a0.tmps.getD 1 undef = .slice mA n mc := by rw [← ha0]; rfl
    have hs4 : a0.tmps.getD 4 undef = .pointer none := by rw [← ha0]; rfl
    have hs5 : a0.tmps.getD 5 undef = .int .i64 (n : Int) := by rw [← ha0]; rfl
    refine wp_region_inv (fun d a w' => ∃ bl f, NInv w (.slice nA n nc) (.slice mA n mc) n a0 bl f d a w') (by kernel_rfl) (by kernel_rfl) ?_ ?_ ?_
    · exact ⟨fun _ => 0, 0, ⟨hsz, hdf, hs0, hs1, hs4, hs5, fun x _ h => (by cases h), fun j j' _ _ _ _ _ h => (by cases h), fun h => (by cases h), fun h => (by cases h), fun h => (by cases h), (Below.refl _ _).drew, fun _ _ _ => rfl⟩⟩
    · intro i o ho d a w1 hd hdp ⟨bl, f, hI⟩
      match i, ho, hd with
      | 0, ho, hd => (cases ho; exact step_val rfl (.slice nA n nc) w1 (run_move hI.s0) ⟨bl, f, hI.val 0 10 .near (by simp [nspec]) hd (by omega) (by omega) _ rfl⟩)
      | 1, ho, hd => (cases ho; exact step_val rfl (.slice mA n mc) w1 (run_move hI.s1) ⟨bl, f, hI.val 1 11 .mate (by simp [nspec]) hd (by omega) (by omega) _ rfl⟩)
      | 2, ho, hd => (cases ho; exact step_val rfl (.int .i64 (n : Int)) w1 (run_move hI.s5) ⟨bl, f, hI.val 2 12 .num (by simp [nspec]) hd (by omega) (by omega) _ rfl⟩)
      | 3, ho, hd => (cases ho; exact step_val rfl _ _ (run_makeS (hI.holds (3 - 1, 13 - 1, .num) (by simp [nspec]) (hdp ⟨3 - 1, .data⟩ (by simp) rfl)) (hI.holds (3 - 1, 13 - 1, .num) (by simp [nspec]) (hdp ⟨3 - 1, .data⟩ (by simp) rfl)) (mk2 n hn w1)) ⟨_, f, hI.mkrow 2 (by omega) (by omega) 3 13 rfl rfl hd⟩)
      | 4, ho, hd => (cases ho; exact step_val rfl (.int .i64 (n : Int)) w1 (run_move hI.s5) ⟨bl, f, hI.val 4 14 .num (by simp [nspec]) hd (by omega) (by omega) _ rfl⟩)
      | 5, ho, hd => (cases ho; exact step_val rfl _ _ (run_makeS (hI.holds (5 - 1, 15 - 1, .num) (by simp [nspec]) (hdp ⟨5 - 1, .data⟩ (by simp) rfl)) (hI.holds (5 - 1, 15 - 1, .num) (by simp [nspec]) (hdp ⟨5 - 1, .data⟩ (by simp) rfl)) (mk3 n hn w1)) ⟨_, f, hI.mkrow 3 (by omega) (by omega) 5 15 rfl rfl hd⟩)
      | 6, ho, hd => (cases ho; exact step_val rfl (.int .i64 (n : Int)) w1 (run_move hI.s5) ⟨bl, f, hI.val 6 16 .num (by simp [nspec]) hd (by omega) (by omega) _ rfl⟩)
      | 7, ho, hd => (cases ho; exact step_val rfl _ _ (run_makeS (hI.holds (7 - 1, 17 - 1, .num) (by simp [nspec]) (hdp ⟨7 - 1, .data⟩ (by simp) rfl)) (hI.holds (7 - 1, 17 - 1, .num) (by simp [nspec]) (hdp ⟨7 - 1, .data⟩ (by simp) rfl)) (mk4 n hn w1)) ⟨_, f, hI.mkrow 4 (by omega) (by omega) 7 17 rfl rfl hd⟩)
      | 8, ho, hd => (cases ho; exact step_val rfl (.int .i64 (n : Int)) w1 (run_move hI.s5) ⟨bl, f, hI.val 8 18 .num (by simp [nspec]) hd (by omega) (by omega) _ rfl⟩)
      | 9, ho, hd => (cases ho; exact step_val rfl _ _ (run_makeS (hI.holds (9 - 1, 19 - 1, .num) (by simp [nspec]) (hdp ⟨9 - 1, .data⟩ (by simp) rfl)) (hI.holds (9 - 1, 19 - 1, .num) (by simp [nspec]) (hdp ⟨9 - 1, .data⟩ (by simp) rfl)) (mk5 n hn w1)) ⟨_, f, hI.mkrow 5 (by omega) (by omega) 9 19 rfl rfl hd⟩)
      | 10, ho, hd => (cases ho; exact step_val rfl (.int .i64 (n : Int)) w1 (run_move hI.s5) ⟨bl, f, hI.val 10 20 .num (by simp [nspec]) hd (by omega) (by omega) _ rfl⟩)
      | 11, ho, hd => (cases ho; exact step_val rfl _ _ (run_makeS (hI.holds (11 - 1, 21 - 1, .num) (by simp [nspec]) (hdp ⟨11 - 1, .data⟩ (by simp) rfl)) (hI.holds (11 - 1, 21 - 1, .num) (by simp [nspec]) (hdp ⟨11 - 1, .data⟩ (by simp) rfl)) (mk6 n hn w1)) ⟨_, f, hI.mkrow 6 (by omega) (by omega) 11 21 rfl rfl hd⟩)
      | 12, ho, hd => (cases ho; exact step_val rfl (.int .i64 (n : Int)) w1 (run_move hI.s5) ⟨bl, f, hI.val 12 22 .num (by simp [nspec]) hd (by omega) (by omega) _ rfl⟩)
      | 13, ho, hd => (cases ho; exact step_val rfl _ _ (run_makeS (hI.holds (13 - 1, 23 - 1, .num) (by simp [nspec]) (hdp ⟨13 - 1, .data⟩ (by simp) rfl)) (hI.holds (13 - 1, 23 - 1, .num) (by simp [nspec]) (hdp ⟨13 - 1, .data⟩ (by simp) rfl)) (mk7 n hn w1)) ⟨_, f, hI.mkrow 7 (by omega) (by omega) 13 23 rfl rfl hd⟩)
      | 14, ho, hd => (cases ho; exact step_val rfl (.int .i64 (n : Int)) w1 (run_move hI.s5) ⟨bl, f, hI.val 14 24 .num (by simp [nspec]) hd (by omega) (by omega) _ rfl⟩)
      | 15, ho, hd => (cases ho; exact step_val rfl _ _ (run_makeS (hI.holds (15 - 1, 25 - 1, .num) (by simp [nspec]) (hdp ⟨15 - 1, .data⟩ (by simp) rfl)) (hI.holds (15 - 1, 25 - 1, .num) (by simp [nspec]) (hdp ⟨15 - 1, .data⟩ (by simp) rfl)) (mk8 n hn w1)) ⟨_, f, hI.mkrow 8 (by omega) (by omega) 15 25 rfl rfl hd⟩)
      | 16, ho, hd => (cases ho; exact step_val rfl (.int .i64 (n : Int)) w1 (run_move hI.s5) ⟨bl, f, hI.val 16 26 .num (by simp [nspec]) hd (by omega) (by omega) _ rfl⟩)
      | 17, ho, hd => (cases ho; exact step_val rfl _ _ (run_makeS (hI.holds (17 - 1, 27 - 1, .num) (by simp [nspec]) (hdp ⟨17 - 1, .data⟩ (by simp) rfl)) (hI.holds (17 - 1, 27 - 1, .num) (by simp [nspec]) (hdp ⟨17 - 1, .data⟩ (by simp) rfl)) (mk9 n hn w1)) ⟨_, f, hI.mkrow 9 (by omega) (by omega) 17 27 rfl rfl hd⟩)
      | 18, ho, hd => (cases ho; exact step_val rfl (.int .i64 (n : Int)) w1 (run_move hI.s5) ⟨bl, f, hI.val 18 28 .num (by simp [nspec]) hd (by omega) (by omega) _ rfl⟩)
      | 19, ho, hd => (cases ho; exact step_val rfl _ _ (run_makeS (hI.holds (19 - 1, 29 - 1, .num) (by simp [nspec]) (hdp ⟨19 - 1, .data⟩ (by simp) rfl)) (hI.holds (19 - 1, 29 - 1, .num) (by simp [nspec]) (hdp ⟨19 - 1, .data⟩ (by simp) rfl)) (mk10 n hn w1)) ⟨_, f, hI.mkrow 10 (by omega) (by omega) 19 29 rfl rfl hd⟩)
      | 20, ho, hd => (cases ho; exact step_val rfl (.int .i64 (n : Int)) w1 (run_move hI.s5) ⟨bl, f, hI.val 20 30 .num (by simp [nspec]) hd (by omega) (by omega) _ rfl⟩)
      | 21, ho, hd => (cases ho; exact step_val rfl _ _ (run_makeS (hI.holds (21 - 1, 31 - 1, .num) (by simp [nspec]) (hdp ⟨21 - 1, .data⟩ (by simp) rfl)) (hI.holds (21 - 1, 31 - 1, .num) (by simp [nspec]) (hdp ⟨21 - 1, .data⟩ (by simp) rfl)) (mk11 n hn w1)) ⟨_, f, hI.mkrow 11 (by omega) (by omega) 21 31 rfl rfl hd⟩)
      | 22, ho, hd => (cases ho; exact step_val rfl (.int .i64 (n : Int)) w1 (run_move hI.s5) ⟨bl, f, hI.val 22 32 .num (by simp [nspec]) hd (by omega) (by omega) _ rfl⟩)
      | 23, ho, hd => (cases ho; exact step_val rfl _ _ (run_makeS (hI.holds (23 - 1, 33 - 1, .num) (by simp [nspec]) (hdp ⟨23 - 1, .data⟩ (by simp) rfl)) (hI.holds (23 - 1, 33 - 1, .num) (by simp [nspec]) (hdp ⟨23 - 1, .data⟩ (by simp) rfl)) (mk12 n hn w1)) ⟨_, f, hI.mkrow 12 (by omega) (by omega) 23 33 rfl rfl hd⟩)
      | 24, ho, hd =>
        cases ho
        have hfull : ∀ j, 2 ≤ j → j ≤ 12 → d (2 * j - 1) = true := by
          intro j h2 h3
          have : j = 2 ∨ j = 3 ∨ j = 4 ∨ j = 5 ∨ j = 6 ∨ j = 7 ∨ j = 8 ∨ j = 9 ∨ j = 10 ∨ j = 11 ∨ j = 12 := by omega
          rcases this with rfl | rfl | rfl | rfl | rfl | rfl | rfl | rfl | rfl | rfl | rfl <;> exact hdp ⟨_, .data⟩ (by simp) rfl
        have hrow := fun j h2 h3 => (hI.holds _ (nspec_row j h2 h3) (hfull j h2 h3)).1
        have e0 : a.tmps.getD 10 undef = .slice nA n nc := hI.holds (0, 10, .near) (by simp [nspec]) (hdp ⟨0, .data⟩ (by simp) rfl)
        have e1 : a.tmps.getD 11 undef = .slice mA n mc := hI.holds (1, 11, .mate) (by simp [nspec]) (hdp ⟨1, .data⟩ (by simp) rfl)
        have g2 := hrow 2 (by omega) (by omega)
        have g3 := hrow 3 (by omega) (by omega)
        have g4 := hrow 4 (by omega) (by omega)
        have g5 := hrow 5 (by omega) (by omega)
        have g6 := hrow 6 (by omega) (by omega)
        have g7 := hrow 7 (by omega) (by omega)
        have g8 := hrow 8 (by omega) (by omega)
        have g9 := hrow 9 (by omega) (by omega)
        have g10 := hrow 10 (by omega) (by omega)
        have g11 := hrow 11 (by omega) (by omega)
        have g12 := hrow 12 (by omega) (by omega)
        simp only [Nat.reduceMul, Nat.reduceAdd] at g2 g3 g4 g5 g6 g7 g8 g9 g10 g11 g12
        refine step_val rfl (.agg (fcells (.slice nA n nc) (.slice mA n mc) n bl).toArray) w1 (run_buildV (by simp only [List.map_toArray, List.map_cons, List.map_nil, eval_tmp, e0, e1, g2, g3, g4, g5, g6, g7, g8, g9, g10, g11, g12]) (run_build nA mA n nc mc bl w1)) ⟨bl, f, ?_⟩
        exact hI.core (24, 34, .agg) (by simp [nspec]) hd _ w1 bl f (fun _ _ => rfl) hI.below (fun _ _ _ _ => rfl) (fun _ => rfl) rfl (fun j j' a1 a2 _ _ e _ => absurd e (by simp only; omega)) (fun _ => hfull) (fun e => absurd e (by simp only; omega)) (fun e => absurd e (by simp only; omega))
      | 25, ho, hd =>
        cases ho
        have h24 : d 24 = true := hdp ⟨24, .data⟩ (by simp) rfl
        have e34 : a.tmps.getD 34 undef = .agg (fcells (.slice nA n nc) (.slice mA n mc) n bl).toArray := hI.holds (24, 34, .agg) (by simp [nspec]) h24
        refine step_val rfl (.pointer (some ⟨w1.heap.size, 0, none⟩)) _ (run_boxV e34 (run_boxF nA mA n nc mc bl w1)) ⟨bl, w1.heap.size, ?_⟩
        exact hI.core (25, 35, .box) (by simp [nspec]) hd _ _ bl w1.heap.size (fun k hk => Below.heap_alloc w1 _ k hk) (hI.below.alloc hI.below.size _) (fun _ _ _ _ => rfl) (fun e => by rw [hd] at e; cases e) rfl (fun j j' a1 a2 _ _ e _ => absurd e (by simp only; omega)) (fun e => absurd e (by simp only; omega))
          (fun _ => ⟨h24, heap_alloc_new w1 _, hI.below.size, fun j h2 h3 => by have := hI.blt h2 h3 (hI.full h24 j h2 h3); omega⟩) (fun e => absurd e (by simp only; omega))
      | 26, ho, hd =>
        cases ho
        have h25 : d 25 = true := hdp ⟨25, .data⟩ (by simp) rfl
        have e35 : a.tmps.getD 35 undef = .pointer (some ⟨f, 0, none⟩) := hI.holds (25, 35, .box) (by simp [nspec]) h25
        refine step_val rfl (.pointer (some ⟨f, 0, none⟩)) w1 (run_assign e35) ⟨bl, f, ?_⟩
        exact hI.core (26, 6, .box) (by simp [nspec]) hd _ w1 bl f (fun _ _ => rfl) hI.below (fun _ _ _ _ => rfl) (fun _ => rfl) rfl (fun j j' a1 a2 _ _ e _ => absurd e (by simp only; omega)) (fun e => absurd e (by simp only; omega)) (fun e => absurd e (by simp only; omega)) (fun _ => h25)
      | k + 27, ho, hd => cases ho
    · intro d a w1 hall ⟨bl, f, hI⟩
      simp only [Exit.then]
      have hall' : ∀ i, i < 27 → d i = true := fun i hi => hall i (by simpa using hi)
      have h6 : a.tmps.getD 6 undef = .pointer (some ⟨f, 0, none⟩) := hI.holds (26, 6, .box) (by simp [nspec]) (hall' 26 (by omega))
      have hP : NewP w nA mA n nc mc f w1 := by
        obtain ⟨_, g2, g3, g4⟩ := hI.d25 (hall' 25 (by omega))
        refine ⟨bl, g2, g3, fun j h2 h3 => ?_, fun j j' a1 a2 b1 b2 e => Classical.byContradiction fun hne => hI.apart j j' a1 a2 b1 b2 hne (hall' _ (by omega)) (hall' _ (by omega)) e, hI.below⟩
        obtain ⟨k1, k2, k3⟩ := hI.holds _ (nspec_row j h2 h3) (hall' _ (by omega))
        exact ⟨g4 j h2 h3, k3, k2⟩
      have ha : a = ⟨setAll [6, 10, 11, 12, 13, 14, 15, 16, 17, 18, 19, 20, 21, 22, 23, 24, 25, 26, 27, 28, 29, 30, 31, 32, 33, 34, 35] a.tmps a0.tmps, []⟩ := by
        have h1 := setAll_eq [6, 10, 11, 12, 13, 14, 15, 16, 17, 18, 19, 20, 21, 22, 23, 24, 25, 26, 27, 28, 29, 30, 31, 32, 33, 34, 35] a.tmps a0.tmps (by rw [hI.size, hsz]) (fun t ht => by
          refine hI.rest t (fun e => ht (by simp [e])) ?_
          simp only [List.mem_cons, List.not_mem_nil, or_false, not_or] at ht
          omega)
        rw [← h1, ← hI.defers]
      have HP := Lib.hid hP
      rw [ha, ← ha0]
      simp only [setAll, h6]
      generalize a.tmps = at0
      clear ha hI hall hall' hP h6
      simp only [List.setIfInBounds_toArray, List.set_cons_succ, List.set_cons_zero]
      refine hK2 _ _ (Met.intro (hJ _ _ ?_))
      repeat apply Exists.intro
      exact ⟨⟨f, rfl, HP⟩, rfl⟩
  case rest =>
    obtain ⟨f, rfl, hP⟩ := hcut
    obtain ⟨L0, hf0, hM0⟩ := hP.out.mem hn hr hc hml
    have HM0 := Lib.hid hM0
    have HF0 := Lib.hid hf0
    clear hM0 hf0 hP
    go_wp2_with fail
    go_loopw [37] (fun i wr => ∃ (k : Nat) (L : FLay), i = .int .i64 k ∧ k ≤ n ∧ Hid (FMem w wr n M L (newS M k) (upN k) (fun _ => 0)) ∧ Hid (L.f = f)) (fun i _ => n - (intOf i).toNat)
    case atStart => exact ⟨0, L0, rfl, Nat.zero_le _, HM0, HF0⟩
    case round =>
      clear HM0 HF0
      clear L0
      obtain ⟨k, L, rfl, hk, hM, hf⟩ := hrel
      by_cases hlt : k < n
      · have i1 : (0 : Int) ≤ (k : Int) := by omega
        have i2 : (k : Int) < (n : Int) := by omega
        have f10 := hM.out.fc 10 _ rfl
        have f11 := hM.out.fc 11 _ rfl
        have f7 := hM.out.fc 7 _ rfl
        have z10 := hM.out.rf 10 (by omega) (by omega) k
        have z11 := hM.out.rf 11 (by omega) (by omega) k
        have z7 := hM.out.rf 7 (by omega) (by omega) k
        have c10 := hM.out.rc 10 (by omega) (by omega) k _ (rowOf_get _ hlt)
        have c11 := hM.out.rc 11 (by omega) (by omega) k _ (rowOf_get _ hlt)
        have c7 := hM.out.rc 7 (by omega) (by omega) k _ (rowOf_get _ hlt)
        have n1 : ∀ i j, 2 ≤ i → i ≤ 12 → 2 ≤ j → j ≤ 12 → i ≠ j → L.b i ≠ L.b j := fun i j a b c d e e' => e (hM.out.inj i j a b c d e')
        have n11 := n1 11 10 (by omega) (by omega) (by omega) (by omega) (by omega)
        have n7 := n1 7 10 (by omega) (by omega) (by omega) (by omega) (by omega)
        have n7' := n1 7 11 (by omega) (by omega) (by omega) (by omega) (by omega)
        rw [hf.out] at f10 f11 f7
        dsimp only [FLay.rv] at f10 f11 f7
        clear n1
        go_upto_region 6 with fail
        go_cut [] (fun wc => Hid (FMem w wc n M L { newS M k with cls := (newS M (k + 1)).cls, base := upd (newS M k).base k k, root := upd (newS M k).root k none } (upN (k + 1)) (fun _ => 0)))
        case first =>
          (refine wp_region_rws [0, 0, 0, 0, 0, 0, 0, 0, 0, 1, 0, 0, 0, 0, 1, 0, 1, 0, 2, 2, 2, 2, 2] (by kernel_rfl) (by kernel_rfl) (by kernel_rfl) (fun _ _ d _ _ h => by cases d <;> exact h) ?_
           simp only [pickL, reduceIte, Nat.reduceEqDiff]
           repeat (go_big_quiet_step (fail))
           refine wpQuiet_nil ?_
           repeat (refine wpW_step ?_ ?_ ?_; rotate_left; focus (intro w1; go_simp; first | done | with_reducible rfl))
           refine wpW_nil ?_
           intro _ hw'
           obtain ⟨nq, hw''⟩ := hw'
           subst hw'')
          go_wp2_with fail
          go_meet
          exact (hM.out.drewN _).new6 hlt
        case rest =>
          have hM1 := hcut
          clear f10 f11 f7 z10 z11 z7 c10 c11 c7 n11 n7 n7'
          obtain ⟨b, o, hmA, _, c1⟩ := (hr.below hM1.out.below).int k _ (mateL_get M hlt)
          rw [hmA]
          cases hmk : M k with
          | some x =>
            have i3 : ((x : Int) == -1) = false := by rw [beq_eq_false_iff_ne]; omega
            have HE := Lib.hid (newS_some hmk)
            rw [hmk] at c1
            simp only [encO] at c1
            clear hmk
            go_wp2_with fail
            refine ⟨⟨k + 1, by omega, by omega, L, ?_, hf⟩, by simp [intOf]; omega⟩
            rw [HE.out]
            exact hM1
          | none =>
            have HE := Lib.hid (newS_none hmk)
            rw [hmk] at c1
            simp only [encO] at c1
            clear hmk
            have f7 := hM1.out.fc 7 _ rfl
            have z7 := hM1.out.rf 7 (by omega) (by omega) k
            have c7 := hM1.out.rc 7 (by omega) (by omega) k _ (rowOf_get _ hlt)
            rw [hf.out] at f7
            dsimp only [FLay.rv] at f7
            go_upto_region 8 with fail
            go_cut [] (fun wc => Hid (FMem w wc n M L { newS M k with cls := (newS M (k + 1)).cls, base := upd (newS M k).base k k, root := upd (upd (newS M k).root k none) k (some k) } (upN (k + 1)) (fun _ => 0)))
            case first =>
              go_wp2_with fail
              go_meet
              exact hM1.out.s7 k (some k) (fun r hr => by cases hr; exact hlt)
            case rest =>
              have hM2 := hcut
              clear f7 z7 c7
              have HRA := raise_u hM2.out hlt (by have := newS_wait M k; show (newS M k).wait.length ≤ _; omega) 0 1 (by omega)
              rw [hf.out] at HRA
              go_wp2_with (go_at_call 169; (refine HRA.mono ?_; rintro e w9 ⟨L9, rfl, hM9, hT9⟩; have hf9 := hT9.f))
              rw [← hmA]
              go_roundw
              case rel =>
                refine ⟨k + 1, L9, by go_num, by omega, ?_, hf9.trans hf.out⟩
                rw [HE.out]
                exact hM9
              case measure => simp [intOf]; omega
      · obtain rfl : k = n := by omega
        go_wp2_with fail
        go_ret
        exact ⟨L, by rw [hf.out]; rfl, ⟨_, _, hM.out⟩, hM.out.below⟩
end Go.Proofs.Ytgddfmfiiodgbaa
