/- Walk of a forest's Labels. -/
import Derived.Test.YtgddfmfiiodgbaaU18
import Derived.Test.YtgddfmfiiodgbaaU19
import Derived.Test.YtgddfmfiiodgbaaU20
import Derived.Test.YtgddfmfiiodgbaaU22
namespace Go.Proofs.Ytgddfmfiiodgbaa
open Go Go.RowKit
set_option maxRecDepth 100000
set_option linter.unusedVariables false
set_option linter.unusedSimpArgs false

/-- What is told of each vertex at last. -/
def labF (S : FoS) (v : Nat) : Nat := if S.outer v = true then 1 else S.label v
def labL (n : Nat) (S : FoS) : List Int := (List.range n).map fun v => ((labF S v : Nat) : Int)
def labK (n k : Nat) (S : FoS) : List Int := (List.range n).map fun v => if v < k then ((labF S v : Nat) : Int) else 0
theorem labK_zero (n : Nat) (S : FoS) : labK n 0 S = List.replicate n 0 := by
  apply List.ext_getElem?
  intro j
  simp only [labK, List.getElem?_map, List.getElem?_replicate]
  by_cases h : j < n
  · simp [h]
  · simp [h]
theorem labK_all (n : Nat) (S : FoS) : labK n n S = labL n S := List.map_congr_left fun v hv => if_pos (List.mem_range.1 hv)
theorem labK_set (n k : Nat) (S : FoS) (x : Int) (hx : x = ((labF S k : Nat) : Int)) : (labK n k S).set k x = labK n (k + 1) S := by
  subst hx
  apply List.ext_getElem?
  intro j
  rw [List.getElem?_set]
  by_cases hj : k = j
  · subst hj
    by_cases hn : k < n
    · simp [labK, hn]
    · simp [labK, hn]
  · rw [if_neg hj]
    simp only [labK, List.getElem?_map]
    by_cases hn : j < n
    · have : j < k + 1 ↔ j < k := by omega
      simp [hn, this]
    · simp [hn]
theorem labK_set0 (n k : Nat) (S : FoS) (x y : Int) (hx : y = ((labF S k : Nat) : Int)) : ((labK n k S).set k x).set k y = labK n (k + 1) S := by
  rw [List.set_set]; exact labK_set n k S y hx
theorem labK_get {n k : Nat} (S : FoS) (h : k < n) : (labK n k S)[k]? = some 0 := by simp [labK, h]
theorem labK_length (n k : Nat) (S : FoS) : (labK n k S).length = n := by simp [labK]

set_option maxHeartbeats 1000000 in
theorem labels_any {w0 w : World} {n : Nat} {M : Nat → Option Nat} {L : FLay} {S : FoS} (hF : FW w0 w n M L S) :
    Calls Try.prog 143 #[.pointer (some ⟨L.f, 0, none⟩)] w fun e w' => ∃ B, e = .returned (.slice (some ⟨B, 0, none⟩) n n) ∧ w.heap.size ≤ B ∧ RowI w' 3 B (labL n S) ∧ Below w.heap.size w w' := by
  have hn := hF.nn
  have f2 := hF.fc 2 _ rfl
  dsimp only [FLay.rv] at f2
  have hmk := fun W : World => run_make_row' (P := Try.prog) 22 3 (.int .i64 0) 8 Try.underlying22 (by kernel_rfl) rfl .i64 .i64 n (by omega) (by omega) W
  go_enter Try.func143, Try.ntmps143
  go_wp2_with fail
  have hR0 : RowI (w.alloc (Obj.cells (madeCells #[Value.int IntKind.i64 0] n) 3)) 3 w.heap.size (labK n 0 S) := by
    unfold RowI
    rw [labK_zero, ← made_zero]
    exact heap_alloc_new _ _
  have HR0 := Lib.hid hR0
  have HB0 := Lib.hid (show Below w.heap.size w (w.alloc (Obj.cells (madeCells #[Value.int IntKind.i64 0] n) 3)) by (repeat (first | with_reducible exact Below.refl _ _ | with_reducible assumption | with_reducible refine below_drewN0 ?_ _ | with_reducible refine Below.drew ?_ | with_reducible refine Below.alloc ?_ ?_ _ | with_reducible refine Below.setCell ?_ ?_ _ | go_size | exact Below.size (by assumption))))
  clear hmk hR0 f2
  go_loopw [13] (fun i wr => ∃ (k : Nat), i = .int .i64 k ∧ k ≤ n ∧ Hid (RowI wr 3 w.heap.size (labK n k S)) ∧ Hid (Below w.heap.size w wr)) (fun i _ => n - (intOf i).toNat)
  case atStart => exact ⟨0, rfl, Nat.zero_le _, HR0, HB0⟩
  case round =>
    clear HR0 HB0
    obtain ⟨k, rfl, hk, hR, hb⟩ := hrel
    by_cases hlt : k < n
    · have hFr := hF.go hb.out
      have i1 : (0 : Int) ≤ (k : Int) := by omega
      have i2 : (k : Int) < (n : Int) := by omega
      have f2 := hFr.fc 2 _ rfl
      have c2 := hFr.c2 hlt
      have f3 := hFr.fc 3 _ rfl
      have c3 := hFr.c3 hlt
      dsimp only [FLay.rv] at f2 f3
      have cR := hR.out.cell (labK_get S hlt)
      have zR := hR.out.frozen k
      have hsz := hb.out.size
      have hlF : w.heap.size ≠ L.f ∧ ∀ i, 2 ≤ i → i ≤ 12 → w.heap.size ≠ L.b i := by
        obtain ⟨u, mk, hM⟩ := hF
        exact ⟨by have := hM.flt; omega, fun i h2 h3 => by have := heap_lt0 (hM.row i h2 h3); omega⟩
      have hne1 := hlF.1
      have hne3 := hlF.2 3 (by omega) (by omega)
      obtain ⟨lb, hlb⟩ : ∃ lb, lb = S.label k := ⟨_, rfl⟩
      rw [← hlb] at c2
      have HLB := Lib.hid hlb
      clear hlF hlb
      cases ho : S.outer k with
      | true =>
        rw [ho] at c3
        have HS := Lib.hid (labK_set0 n k S (lb : Int) 1 (by unfold labF; rw [if_pos ho]; rfl))
        go_wp2_with fail
        go_roundw
        case rel =>
          refine ⟨k + 1, by go_num, by omega, ?_, ?_⟩
          · have h9 := (hR.out.set k (lb : Int)).set k 1
            rw [HS.out] at h9
            exact h9
          · exact (hb.out.setCell (p := ⟨w.heap.size, k, none⟩) (Nat.le_refl _) _).setCell (p := ⟨w.heap.size, k, none⟩) (Nat.le_refl _) _
        case measure => simp [intOf]; omega
      | false =>
        rw [ho] at c3
        have HS := Lib.hid (labK_set n k S (lb : Int) (by unfold labF; rw [if_neg (by rw [ho]; simp), HLB.out]))
        go_wp2_with fail
        go_roundw
        case rel =>
          refine ⟨k + 1, by go_num, by omega, ?_, ?_⟩
          · have h9 := hR.out.set k (lb : Int)
            rw [HS.out] at h9
            exact h9
          · exact hb.out.setCell (p := ⟨w.heap.size, k, none⟩) (Nat.le_refl _) _
        case measure => simp [intOf]; omega
    · obtain rfl : k = n := by omega
      have hR' := hR.out
      rw [labK_all] at hR'
      have HR := Lib.hid hR'
      clear hR hR'
      go_wp2_with fail
      go_ret
      exact ⟨w.heap.size, rfl, Nat.le_refl _, HR.out, hb.out⟩
end Go.Proofs.Ytgddfmfiiodgbaa

/- Walk of single.Search: what it needs. -/
namespace Go.Proofs.Ytgddfmfiiodgbaa
open Go Go.RowKit
set_option maxRecDepth 100000
set_option linter.unusedVariables false
set_option linter.unusedSimpArgs false

/-- Neighbours in memory. -/
def NearAt (w : World) (nA : Option Addr) (n : Nat) (nr : Nat → List Nat) : Prop :=
  ∀ v, v < n → ∃ nb no A c, nA = some ⟨nb, no, none⟩ ∧ nb < w.heap.size ∧ w.cell? ⟨nb, no + v, none⟩ = some (.slice A (natI (nr v)).length c) ∧ (natI (nr v)).length ≤ c ∧ Reads w A (icells (natI (nr v)))
theorem NearAt.below {w w' : World} {nA : Option Addr} {n : Nat} {nr : Nat → List Nat} (h : NearAt w nA n nr) (hb : Below w.heap.size w w') : NearAt w' nA n nr := by
  intro v hv
  obtain ⟨nb, no, A, c, h1, h2, h3, h4, h5⟩ := h v hv
  exact ⟨nb, no, A, c, h1, Nat.lt_of_lt_of_le h2 hb.size, (hb.cell (p := ⟨nb, no + v, none⟩) h2).trans h3, h4, h5.below hb⟩

/-- How often edges are looked at from some vertices. -/
def sumD (nr : Nat → List Nat) (F : List Nat) : Nat := (F.map fun v => (nr v).length).sum
theorem sumD_append (nr : Nat → List Nat) (F G : List Nat) : sumD nr (F ++ G) = sumD nr F + sumD nr G := by simp [sumD]
theorem sumD_le (nr : Nat → List Nat) : ∀ (F G : List Nat), F.Nodup → (∀ x ∈ F, x ∈ G) → sumD nr F ≤ sumD nr G := by
  intro F
  induction F with
  | nil => intro G _ _; exact Nat.zero_le _
  | cons x F ih =>
    intro G hn hs
    obtain ⟨s, t, rfl⟩ := List.append_of_mem (hs x (by simp))
    have hn' := List.nodup_cons.1 hn
    have := ih (s ++ t) hn'.2 (fun y hy => by
      have h1 := hs y (by simp [hy])
      simp only [List.mem_append, List.mem_cons] at h1 ⊢
      rcases h1 with h | rfl | h
      · exact .inl h
      · exact absurd hy hn'.1
      · exact .inr h)
    simp only [sumD, List.map_cons, List.sum_cons, List.map_append, List.sum_append] at this ⊢
    omega

/-- The edges that were looked at. -/
def LkF (E : Nat → Nat → Prop) (F : List Nat) : Nat → Nat → Prop := fun a b => a ∈ F ∧ E a b
def LkK (E : Nat → Nat → Prop) (nr : Nat → List Nat) (F : List Nat) (v k : Nat) : Nat → Nat → Prop := fun a b => (a ∈ F ∧ E a b) ∨ (a = v ∧ b ∈ (nr v).take k)

/-- What holds of a search's world. -/
structure SH (w wr : World) (n : Nat) (E : Nat → Nat → Prop) (M : Nat → Option Nat) (f : Nat) (L : FLay) (S : FoS) (D : Nat → Nat) (F : List Nat) (Lk : Nat → Nat → Prop) : Prop where
  fw : FW w wr n M L S
  hf : L.f = f
  si : SI n E M S D F Lk
  gone : ∀ v, S.gone v = false

theorem SI.start {n : Nat} {E : Nat → Nat → Prop} {M : Nat → Option Nat} (hM : IsMat n E M) : SI n E M (newS M n) (fun _ => 0) [] (LkF E []) := by
  have hmem : ∀ v, v < n → ((newS M n).outer v = true ↔ v ∈ [] ++ (newS M n).wait) := fun v hv => by simp [newS, hv]
  refine ⟨FInv.begin hM _ (fun v hv => by simp [newS, hv]) (fun v hv => by simp [newS, hv]) (fun v hv => by simp [newS, hv]) (fun v hv => by simp [newS, hv]) (fun v hv => by simp [newS, hv]), ?_, hmem, fun v hv => ?_, fun a b h => (by cases h.1), fun a b h => (by cases h.1), fun a b h => (by cases h.1)⟩
  · simp only [newS, List.nil_append]
    exact List.Pairwise.filter _ List.nodup_range
  · simp [newS] at hv; exact hv.1

theorem SH.next {w wr wr' : World} {n : Nat} {E : Nat → Nat → Prop} {M : Nat → Option Nat} {f : Nat} {L L' : FLay} {S : FoS} {D : Nat → Nat} {F : List Nat} {Lk : Nat → Nat → Prop} (h : SH w wr n E M f L S D F Lk) {v : Nat} {l : List Nat} (hw : S.wait = v :: l)
    (hF : FW w wr' n M L' { S with wait := l }) (hf : L'.f = f) : SH w wr' n E M f L' { S with wait := l } D (F ++ [v]) Lk ∧ v < n := by
  obtain ⟨h1, h2, h3⟩ := h.si.next hw
  exact ⟨⟨hF, hf, h1, h.gone⟩, h2⟩

/-- What a search tells. -/
def SearchPost (n : Nat) (E : Nat → Nat → Prop) (M : Nat → Option Nat) (nr : Nat → List Nat) (w : World) (e : Ending) (w' : World) : Prop :=
  (∃ p g c lk, e = .returned (.tuple #[.slice (some ⟨g, 0, none⟩) (natI p).length c, .slice none 0 0, .int .i64 ((lk : Nat) : Int)]) ∧ lk ≤ sumD nr (List.range n) ∧ AugW E M p ∧ (∀ x ∈ p, x < n) ∧
    w'.ownsRow w.heap.size 3 1 (.slice (some ⟨g, 0, none⟩) (natI p).length c) (natI p).length (icells (natI p)) ∧ Below w.heap.size w w') ∨
  (∃ B S D lk, e = .returned (.tuple #[.slice none 0 0, .slice (some ⟨B, 0, none⟩) n n, .int .i64 ((lk : Nat) : Int)]) ∧ lk ≤ sumD nr (List.range n) ∧ FInv n E M S D ∧ Closed E M S ∧ RowI w' 3 B (labL n S) ∧ w.heap.size ≤ B ∧ Below w.heap.size w w')

section
variable {w0 w : World} {n : Nat} {M : Nat → Option Nat} {L : FLay} {S : FoS}
theorem next_none_f (hF : FW w0 w n M L S) {f : Nat} (hf : L.f = f) (hw : S.wait = []) : Calls Try.prog 139 #[.pointer (some ⟨f, 0, none⟩)] w fun e w' => e = .returned (.tuple #[.int .i64 0, .bool false]) ∧ w = w' := by
  subst hf; exact next_none hF hw
theorem next_some_f (hF : FW w0 w n M L S) {f : Nat} (hf : L.f = f) {v : Nat} {l : List Nat} (hw : S.wait = v :: l) : Calls Try.prog 139 #[.pointer (some ⟨f, 0, none⟩)] w (FPost w0 n M L { S with wait := l } (.tuple #[.int .i64 (v : Int), .bool true]) w) := by
  subst hf; exact next_some hF hw
theorem look_f (hF : FW w0 w n M L S) {f : Nat} (hf : L.f = f) {v u : Nat} (hv : v < n) (hw : u < n) (hlk : S.looks < 4611686018427387903) (x : Int) (hx : ((lookN M S v u : Nat) : Int) = x) :
    Calls Try.prog 140 #[.pointer (some ⟨f, 0, none⟩), .int .i64 (v : Int), .int .i64 (u : Int)] w (FPost w0 n M L { S with looks := S.looks + 1 } (.int .i64 x) w) := by
  subst hf hx; exact look_any hF hv hw hlk
theorem grow_f (hF : FW w0 w n M L S) {f : Nat} (hf : L.f = f) {v u x : Nat} (hv : v < n) (hw : u < n) (hvu : v ≠ u) (hx : M u = some x) (hl : S.wait.length ≤ 2 * n) :
    Calls Try.prog 141 #[.pointer (some ⟨f, 0, none⟩), .int .i64 (v : Int), .int .i64 (u : Int)] w (FPost w0 n M L (S.grow v u x (wrap64 (S.even v + 1)) (wrap64 (S.even v + 2))) (.tuple #[]) w) := by
  subst hf; exact grow_any hF hv hw hvu hx hl
theorem labels_f (hF : FW w0 w n M L S) {f : Nat} (hf : L.f = f) : Calls Try.prog 143 #[.pointer (some ⟨f, 0, none⟩)] w fun e w' => ∃ B, e = .returned (.slice (some ⟨B, 0, none⟩) n n) ∧ w.heap.size ≤ B ∧ RowI w' 3 B (labL n S) ∧ Below w.heap.size w w' := by
  subst hf; exact labels_any hF
end

theorem nil_no (W : World) : (binOp .neq 22 (.slice none 0 0) (.slice none 0 0)).run Try.prog W = .ok (.bool false) W := by
  rw [run_neq_slice_nil_any W 22 3 _ _ _ _ _ Try.underlying22]; rfl
theorem nil_yes (W : World) (g m c : Nat) : (binOp .neq 22 (.slice (some ⟨g, 0, none⟩) m c) (.slice none 0 0)).run Try.prog W = .ok (.bool true) W := by
  rw [run_neq_slice_nil_any W 22 3 _ _ _ _ _ Try.underlying22]; rfl
theorem join_none_f {w0 w : World} {n : Nat} {M : Nat → Option Nat} {L : FLay} {S S2 S3 : FoS} (hF : FW w0 w n M L S) {f : Nat} (hf : L.f = f) {v u c : Nat} {X Y : List Nat} (hv : v < n) (hw : u < n) (hc : c < n) (hr : S.root v = S.root u)
    (hP : MeetP n M S c (S.bs v :: X) (S.bs u :: Y)) (hT : S.turn < S.looks) {k k' : Nat} {ev ev' : Nat → Int}
    (hev : ∀ m, ev m = wrap64 (wrap64 (wrap64 (S.even v + S.even u) + 1) - S.odd m)) (hR1 : ShRun M n v u c ev k (S.bs v) { S with turn := S.turn + 1 } S2) (hl1 : S.wait.length + k ≤ 2 * n)
    (hev' : ∀ m, ev' m = wrap64 (wrap64 (wrap64 (S2.even u + S2.even v) + 1) - S2.odd m)) (hR2 : ShRun M n u v c ev' k' (S2.bs u) S2 S3) (hl2 : S2.wait.length + k' ≤ 2 * n) :
    Calls Try.prog 142 #[.pointer (some ⟨f, 0, none⟩), .int .i64 (v : Int), .int .i64 (u : Int)] w (FPost w0 n M L S3 (.slice none 0 0) w) := by
  subst hf; exact join_none hF hv hw hc hr hP hT hev hR1 hl1 hev' hR2 hl2
theorem join_path_f {w0 w : World} {n : Nat} {M : Nat → Option Nat} {L : FLay} {S : FoS} (hF : FW w0 w n M L S) {f : Nat} (hf : L.f = f) {v u rv ru : Nat} {pv pu : List Nat} (hv : v < n) (hw : u < n) (hrv : S.root v = some rv) (hru : S.root u = some ru) (hne : rv ≠ ru)
    (hWv : Way M S v rv pv) (hWu : Way M S u ru pu) (hlv : pv.length ≤ 1000000) (hlu : pu.length ≤ 1000000) :
    Calls Try.prog 142 #[.pointer (some ⟨f, 0, none⟩), .int .i64 (v : Int), .int .i64 (u : Int)] w (JoinPost w0 n M L { S with gone := upd (upd S.gone rv true) ru true } (pv.reverse ++ pu) w) := by
  subst hf; exact join_path hF hv hw hrv hru hne hWv hWu hlv hlu
theorem FW.turn_lt {w0 w : World} {n : Nat} {M : Nat → Option Nat} {L : FLay} {S : FoS} (h : FW w0 w n M L S) : S.turn ≤ S.looks := h.bd.turn
theorem FW.below {w0 w : World} {n : Nat} {M : Nat → Option Nat} {L : FLay} {S : FoS} (h : FW w0 w n M L S) : Below w0.heap.size w0 w := by
  obtain ⟨u, mk, hM⟩ := h; exact hM.below
theorem FStep.hf {L L' : FLay} {a b : World} {f : Nat} (h : FStep L L' a b) (hf : L.f = f) : L'.f = f := h.f.trans hf

theorem LkK_zero {E : Nat → Nat → Prop} {nr : Nat → List Nat} {F : List Nat} {v : Nat} (a b : Nat) : LkK E nr F v 0 a b ↔ LkF E F a b := by
  unfold LkK LkF; simp
theorem LkK_succ {E : Nat → Nat → Prop} {nr : Nat → List Nat} {F : List Nat} {v k u : Nat} (hu : (nr v)[k]? = some u) (a b : Nat) : LkK E nr F v (k + 1) a b ↔ LkP (LkK E nr F v k) v u a b := by
  unfold LkP LkK
  obtain ⟨hk, rfl⟩ := List.getElem?_eq_some_iff.1 hu
  rw [List.take_succ_eq_append_getElem hk, List.mem_append]
  simp only [List.mem_singleton]
  constructor
  · rintro (h | ⟨h1, h2 | h2⟩)
    · exact .inl (.inl h)
    · exact .inl (.inr ⟨h1, h2⟩)
    · exact .inr ⟨h1, h2⟩
  · rintro ((h | ⟨h1, h2⟩) | ⟨h1, h2⟩)
    · exact .inl h
    · exact .inr ⟨h1, .inl h2⟩
    · exact .inr ⟨h1, .inr h2⟩
theorem LkK_all {E : Nat → Nat → Prop} {nr : Nat → List Nat} {F : List Nat} {v : Nat} (hE : ∀ u, E v u ↔ u ∈ nr v) (a b : Nat) : LkF E (F ++ [v]) a b ↔ LkK E nr F v (nr v).length a b := by
  unfold LkK LkF
  rw [List.take_length, List.mem_append, List.mem_singleton]
  constructor
  · rintro ⟨h1 | h1, h2⟩
    · exact .inl ⟨h1, h2⟩
    · exact .inr ⟨h1, by rw [h1] at h2; exact (hE b).1 h2⟩
  · rintro (⟨h1, h2⟩ | ⟨h1, h2⟩)
    · exact ⟨.inl h1, h2⟩
    · exact ⟨.inr h1, by rw [h1]; exact (hE b).2 h2⟩

theorem goneB_no {S : FoS} (h : ∀ v, S.gone v = false) (v : Nat) : S.goneB v = false := by
  unfold FoS.goneB; split
  · rfl
  · exact h _
theorem lookN0 {M : Nat → Option Nat} {S : FoS} {v u : Nat} (h : M v = some u ∨ (S.label u ≠ 0 ∧ (S.outer u = true → S.bs v = S.bs u))) : lookN M S v u = 0 := by
  unfold lookN
  by_cases h1 : M v = some u ∨ S.goneB v = true ∨ S.goneB u = true
  · rw [if_pos h1]
  · rcases h with h | ⟨h2, h3⟩
    · exact absurd (.inl h) h1
    · rw [if_neg h1, if_neg h2, if_neg (fun e => e.2 (h3 e.1))]
theorem lookN1 {M : Nat → Option Nat} {S : FoS} {v u : Nat} (hg : ∀ v, S.gone v = false) (h : M v ≠ some u) (h0 : S.label u = 0) : lookN M S v u = 1 := by
  unfold lookN
  rw [if_neg (by rw [goneB_no hg, goneB_no hg]; simp [h]), if_pos h0]
theorem lookN2 {M : Nat → Option Nat} {S : FoS} {v u : Nat} (hg : ∀ v, S.gone v = false) (h : M v ≠ some u) (h0 : S.label u ≠ 0) (ho : S.outer u = true) (hb : S.bs v ≠ S.bs u) : lookN M S v u = 2 := by
  unfold lookN
  rw [if_neg (by rw [goneB_no hg, goneB_no hg]; simp [h]), if_neg h0, if_pos ⟨ho, hb⟩]

/-- The next vertex, one way or the other. -/
def HeadR (w wr : World) (n : Nat) (E : Nat → Nat → Prop) (M : Nat → Option Nat) (nr : Nat → List Nat) (f : Nat) (g : Nat) (p q : Value) : Prop :=
  (∃ v F S D L, p = .int .i64 ((v : Nat) : Int) ∧ q = .bool true ∧ v < n ∧ SH w wr n E M f L S D (F ++ [v]) (LkF E F) ∧ S.looks = sumD nr F ∧ n - F.length ≤ g) ∨
  (∃ F S D L, q = .bool false ∧ SH w wr n E M f L S D F (LkF E F) ∧ S.looks = sumD nr F ∧ S.wait = [])

end Go.Proofs.Ytgddfmfiiodgbaa
