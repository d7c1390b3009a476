/- The labels that levels tell are a closed forest's (no program in sight). -/
import Derived.Test.YtgddfmfiiodgbaaU41
import Derived.Test.YtgddfmfiiodgbaaU23
import Derived.Test.YtgddfmfiiodgbaaU42
import Derived.Deep.RegionLaw
import Derived.Deep.CutBlock
namespace Go.Proofs.Ytgddfmfiiodgbaa
set_option linter.unusedVariables false
set_option linter.unusedSimpArgs false

section
variable {n : Nat} {E : Nat → Nat → Prop} {M : Nat → Option Nat}

theorem Alt.last {q : List Nat} (h : Alt E M q) : ∃ t r, q = t ++ [r] ∧ M r = none := by
  induction h with
  | @root r h => exact ⟨[], r, rfl, h⟩
  | @out w v l _ _ _ _ _ ih =>
    obtain ⟨t, r, e, h⟩ := ih
    exact ⟨w :: t, r, by rw [e]; rfl, h⟩
  | @back w v l _ _ _ _ ih =>
    obtain ⟨t, r, e, h⟩ := ih
    exact ⟨w :: t, r, by rw [e]; rfl, h⟩

/-- All paths from free vertices. -/
def AllP (n : Nat) (E : Nat → Nat → Prop) (M : Nat → Option Nat) (q : List Nat) : Prop := ∃ r, r < n ∧ M r = none ∧ Onw E M [r] q
theorem allP_alt {q : List Nat} (h : AllP n E M q) : Alt E M q := h.elim fun _ h => h.2.2.1
theorem allP_of {q : List Nat} (h : Alt E M q) (hl : ∀ x ∈ q, x < n) : AllP n E M q := by
  obtain ⟨t, r, e, hr⟩ := h.last
  exact ⟨r, hl r (by rw [e]; simp), hr, h, ⟨t, e.symm⟩⟩
theorem allP_lt (hg : IsGr n E) (hM : IsMat n E M) {q : List Nat} (h : AllP n E M q) : ∀ x ∈ q, x < n := by
  obtain ⟨r, hr, hf, ha, t, ht⟩ := h
  refine ha.lt hg hM fun r' e => ?_
  rw [e] at ht
  have : t = [] ∧ r = r' := by
    cases t with
    | nil => simpa using ht
    | cons x t => simp at ht
  rw [← this.2]; exact hr

theorem LevOf.evenA {ev od : Nat → Int} {best : Int} (h : LevOf n M (AllP n E M) ev od best) {v : Nat} (hv : v < n) : 0 ≤ ev v ↔ ∃ q, AllP n E M (v :: q) ∧ q.length % 2 = 0 :=
  (h.even v hv).pos.trans ⟨fun ⟨k, q, a, b, c⟩ => ⟨q, a, by rw [b]; exact c⟩, fun ⟨q, a, b⟩ => ⟨q.length, q, a, rfl, b⟩⟩
theorem LevOf.oddA {ev od : Nat → Int} {best : Int} (h : LevOf n M (AllP n E M) ev od best) {v : Nat} (hv : v < n) : 0 ≤ od v ↔ ∃ q, AllP n E M (v :: q) ∧ q.length % 2 = 1 :=
  (h.odd v hv).pos.trans ⟨fun ⟨k, q, a, b, c⟩ => ⟨q, a, by rw [b]; exact c⟩, fun ⟨q, a, b⟩ => ⟨q.length, q, a, rfl, b⟩⟩

theorem lev_lab {S : FoS} {D : Nat → Nat} {ev od : Nat → Int} {best : Int} (hg : IsGr n E) (hM : IsMat n E M) (h : FInv n E M S D) (hc : Closed E M S) (hL : LevOf n M (AllP n E M) ev od best) {v : Nat} (hv : v < n) :
    labF S v = if 0 ≤ ev v then 1 else if 0 ≤ od v then 2 else 0 := by
  have hE : 0 ≤ ev v ↔ S.outer v = true := by
    rw [hL.evenA hv]
    constructor
    · rintro ⟨q, ha, hq⟩
      have hlt := allP_lt hg hM ha
      have hA := allP_alt ha
      exact (h.closed_even hg hM hc ((hA.even hg hM).1 (by simp; omega)) hA.nodup hlt).1 v q rfl
    · intro ho
      obtain ⟨r, p, _, _, _, _, hs, hp, hn, hl⟩ := h.path hg hM hv ho
      obtain ⟨l, rfl⟩ := hs.first
      obtain ⟨h1, h2⟩ := alt_of_even hg hM hp hn
      exact ⟨l, allP_of h1 fun x hx => (hl x hx).1, by simp at h2; omega⟩
  unfold labF
  by_cases ho : S.outer v = true
  · rw [if_pos ho, if_pos (hE.2 ho)]
  · rw [if_neg ho, if_neg (fun e => ho (hE.1 e))]
    have ho' : S.outer v = false := by simpa using ho
    have hl2 := h.lab v hv
    have h1 : S.label v ≠ 1 := fun e => by rw [(h.one v hv e).1] at ho'; cases ho'
    by_cases h2 : S.label v = 2
    · obtain ⟨u, l, k1, k2, k3, k4⟩ := h.path_odd hg hM hv h2 ho'
      have hn := List.nodup_cons.1 k3
      obtain ⟨a1, a2⟩ := alt_of_even hg hM k2 hn.2
      have hlt := k2.lt hg hM (fun x hx => by simp at hx; rw [← hx.1]; exact hg.lt (hg.symm k1))
      have hA : Alt E M (v :: u :: l) := .out a1 a2 (hg.symm k1) k4 hn.1
      rw [if_pos ((hL.oddA hv).2 ⟨u :: l, allP_of hA fun x hx => by
        rcases List.mem_cons.1 hx with rfl | hx
        · exact hv
        · exact hlt x hx, by omega⟩), h2]
    · rw [if_neg]
      · omega
      · intro e
        obtain ⟨q, ha, hq⟩ := (hL.oddA hv).1 e
        have hA := allP_alt ha
        obtain ⟨w, u, l, e1, e2, e3, e4⟩ := (hA.even hg hM).2 (by simp; omega)
        cases e1
        have := (h.closed_odd hg hM hc e2 e3 hA.nodup e4).1
        omega
end
end Go.Proofs.Ytgddfmfiiodgbaa

/- Walk of the reference's Levels. -/
namespace Go.Proofs.Ytgddfmfiiodgbaa
open Go Go.RowKit
set_option maxRecDepth 100000
set_option linter.unusedVariables false
set_option linter.unusedSimpArgs false

/-- The search as it is laid, and its two rows as they grow. -/
structure Tw2 (w : World) (B s b : Nat) (n : Int) (A : Value) (mV sev sov e o : Value) (xs ys : List Int) (W : World) : Prop where
  blk : W.heap[s]? = some (.cells #[.int .i64 n, A, mV, sev, sov, .int .i64 (-1)] 161 (0, 0))
  gb : W.heap[b]? = some (.cells #[.int .i64 n, A] 25 (0, 0))
  oe : W.ownsRow B 3 1 e xs.length (icells xs)
  oo : W.ownsRow B 3 1 o ys.length (icells ys)
  ne : ∀ g, e.ownBlock = some g → o.ownBlock ≠ some g
  bs : b < s
  sB : s < B
  bB : B ≤ W.heap.size
  below : Below w.heap.size w W
  lo : w.heap.size ≤ s
section
variable {w W W' : World} {B s b : Nat} {n : Int} {A mV sev sov e o v' : Value} {xs ys : List Int}
theorem Tw2.go (h : Tw2 w B s b n A mV sev sov e o xs ys W) (hb : Below W.heap.size W W') : Tw2 w B s b n A mV sev sov e o xs ys W' :=
  ⟨(hb.block _ (heap_lt0 h.blk)).trans h.blk, (hb.block _ (heap_lt0 h.gb)).trans h.gb, own_below0 h.oe hb, own_below0 h.oo hb, h.ne, h.bs, h.sB, Nat.le_trans h.bB hb.size, h.below.trans (hb.mono h.below.size), h.lo⟩
theorem Tw2.appE (h : Tw2 w B s b n A mV sev sov e o xs ys W) (x : Int) (hw : W'.ownsRow B 3 1 v' (xs.length + 1) (icells xs ++ [.int .i64 x])) (hg : W.grownBy W' e.ownBlock) (hat : v'.ownBlock = e.ownBlock ∨ v'.ownBlock = some W.heap.size) :
    Tw2 w B s b n A mV sev sov v' o (xs ++ [x]) ys W' := by
  have hl := own_lt0 h.oe
  refine ⟨(hg.block s (heap_lt0 h.blk) (fun e' => by have := (hl s e'.symm).1; have := h.sB; omega)).trans h.blk, (hg.block b (heap_lt0 h.gb) (fun e' => by have := (hl b e'.symm).1; have := h.sB; have := h.bs; omega)).trans h.gb, own_cast hw (Nat.le_refl _) (by simp) (by simp [icells]), own_far h.oo fun g hg' => hg.block g (own_lt0 h.oo g hg').2 (fun e' => h.ne g e'.symm hg'), fun g hg' => ?_, h.bs, h.sB, Nat.le_trans h.bB hg.size, h.below.grown hg h.below.size (fun g hg' => by have := (hl g hg').1; have := h.sB; have := h.lo; omega), h.lo⟩
  rcases hat with e1 | e1
  · rw [e1] at hg'; exact h.ne g hg'
  · rw [e1] at hg'
    cases hg'
    intro e2
    have := (own_lt0 h.oo _ e2).2
    omega
theorem Tw2.appO (h : Tw2 w B s b n A mV sev sov e o xs ys W) (x : Int) (hw : W'.ownsRow B 3 1 v' (ys.length + 1) (icells ys ++ [.int .i64 x])) (hg : W.grownBy W' o.ownBlock) (hat : v'.ownBlock = o.ownBlock ∨ v'.ownBlock = some W.heap.size) :
    Tw2 w B s b n A mV sev sov e v' xs (ys ++ [x]) W' := by
  have hl := own_lt0 h.oo
  refine ⟨(hg.block s (heap_lt0 h.blk) (fun e' => by have := (hl s e'.symm).1; have := h.sB; omega)).trans h.blk, (hg.block b (heap_lt0 h.gb) (fun e' => by have := (hl b e'.symm).1; have := h.sB; have := h.bs; omega)).trans h.gb, own_far h.oe fun g hg' => hg.block g (own_lt0 h.oe g hg').2 (fun e' => h.ne g hg' e'.symm), own_cast hw (Nat.le_refl _) (by simp) (by simp [icells]), fun g hg' => ?_, h.bs, h.sB, Nat.le_trans h.bB hg.size, h.below.grown hg h.below.size (fun g hg' => by have := (hl g hg').1; have := h.sB; have := h.lo; omega), h.lo⟩
  rcases hat with e1 | e1
  · rw [e1]; exact h.ne g hg'
  · rw [e1]
    intro e2
    cases e2
    have := (own_lt0 h.oe _ hg').2
    omega
theorem Tw2.set (h : Tw2 w B s b n A mV sev sov e o xs ys W) : Tw2 w B s b n A mV e o e o xs ys ((W.setCell ⟨s, 3, none⟩ e).setCell ⟨s, 4, none⟩ o) := by
  have hb : ((W.setCell ⟨s, 3, none⟩ e).setCell ⟨s, 4, none⟩ o).heap[s]? = some (.cells #[.int .i64 n, A, mV, e, o, .int .i64 (-1)] 161 (0, 0)) := by
    have h1 := h.blk
    simp [World.setCell, Array.getElem?_modify, h1]
  have hf : ∀ g, g ≠ s → ((W.setCell ⟨s, 3, none⟩ e).setCell ⟨s, 4, none⟩ o).heap[g]? = W.heap[g]? := fun g hg => (Below.heap_setCell _ _ _ _ hg).trans (Below.heap_setCell _ _ _ _ hg)
  refine ⟨hb, (hf b (by have := h.bs; omega)).trans h.gb, own_far h.oe fun g hg => hf g (fun e' => ?_), own_far h.oo fun g hg => hf g (fun e' => ?_), h.ne, h.bs, h.sB, by simp only [World.size_setCell]; exact h.bB, (h.below.setCell (p := ⟨s, 3, none⟩) h.lo _).setCell (p := ⟨s, 4, none⟩) h.lo _, h.lo⟩
  · have := (own_lt0 h.oe g hg).1; have := h.sB; omega
  · have := (own_lt0 h.oo g hg).1; have := h.sB; omega
end

def LevPost (n : Nat) (es : List (Int × Int)) (M : Nat → Option Nat) (w : World) (e : Ending) (w' : World) : Prop :=
  ∃ Ae Ao ce co ev od best, e = .returned (.tuple #[.slice Ae n ce, .slice Ao n co, .int .i64 best]) ∧ n ≤ ce ∧ n ≤ co ∧ Reads w' Ae (icells (rowL n ev)) ∧ Reads w' Ao (icells (rowL n od)) ∧ LevOf n M (AllP n (adjE es) M) ev od best ∧ Below w.heap.size w w'



set_option maxHeartbeats 2000000 in
theorem levels_any {n : Nat} {es : List (Int × Int)} {M : Nat → Option Nat} (hP : RightP n es) (hM : IsMat n (adjE es) M) (A mA : Option Addr) (c mc : Nat) (w : World) (hr : Reads w A (pcells es)) (hc : es.length ≤ c) (hrm : Reads w mA (icells (mateL n M))) (hA : ∀ q, A = some q → q.block < w.heap.size) (hmA : ∀ q, mA = some q → q.block < w.heap.size) :
    Calls Try.prog 102 #[.agg #[.int .i64 (n : Int), .slice A es.length c], .slice mA n mc] w (LevPost n es M w) := by
  have hn4 : n ≤ 4096 := by have := hP.n1; omega
  have HR := Lib.hid hr
  have HRM := Lib.hid hrm
  have HP := Lib.hid hP
  have HM := Lib.hid hM
  clear hr hrm hP hM
  go_enter Try.func102, Try.ntmps102
  go_upto_region 2 with fail
  obtain ⟨W0, hW0⟩ : ∃ W0, W0 = (w.alloc (Obj.cells #[Value.int IntKind.i64 (n : Int), Value.slice A es.length c] 25)).alloc (Obj.cells #[Value.int IntKind.i64 (n : Int), Value.slice A es.length c, Value.slice mA n mc, Value.slice none 0 0, Value.slice none 0 0, Value.int IntKind.i64 (-1)] 161) := ⟨_, rfl⟩
  rw [← hW0]
  have hT0 : Tw2 w (w.heap.size + 2) (w.heap.size + 1) w.heap.size (n : Int) (.slice A es.length c) (.slice mA n mc) (.slice none 0 0) (.slice none 0 0) (.slice none 0 0) (.slice none 0 0) [] [] W0 := by
    rw [hW0]
    refine ⟨?_, heap_old (heap_alloc_new _ _), own_nil0 _ _ _ _, own_nil0 _ _ _ _, fun g hg => (by simp [Value.ownBlock] at hg), by omega, by omega, by simp, by (repeat (first | with_reducible exact Below.refl _ _ | with_reducible assumption | with_reducible refine below_drewN0 ?_ _ | with_reducible refine Below.drew ?_ | with_reducible refine Below.alloc ?_ ?_ _ | with_reducible refine Below.setCell ?_ ?_ _ | go_size | exact Below.size (by assumption))), by omega⟩
    have h := heap_alloc_new (w.alloc (Obj.cells #[Value.int IntKind.i64 (n : Int), Value.slice A es.length c] 25)) (Obj.cells #[Value.int IntKind.i64 (n : Int), Value.slice A es.length c, Value.slice mA n mc, Value.slice none 0 0, Value.slice none 0 0, Value.int IntKind.i64 (-1)] 161)
    rw [World.size_alloc] at h
    exact h
  clear hW0
  obtain ⟨s, hs⟩ : ∃ s, s = w.heap.size + 1 := ⟨_, rfl⟩
  obtain ⟨b, hb⟩ : ∃ b, b = w.heap.size := ⟨_, rfl⟩
  rw [← hs] at hT0 ⊢
  have hbs : b < s ∧ w.heap.size ≤ b ∧ w.heap.size + 2 = s + 1 := by omega
  rw [hbs.2.2, ← hb] at hT0
  rw [← hb]
  have HT0 := Lib.hid hT0
  have HBS := Lib.hid hbs
  have HB := Lib.hid hb
  clear hT0 hs hbs hb
  go_wp2_with fail
  go_loopw [8] (fun i wr => ∃ (k : Nat) (e o : Value), i = .int .i64 k ∧ k ≤ n ∧ Hid (Tw2 w (s + 1) s b (n : Int) (.slice A es.length c) (.slice mA n mc) e o e o (List.replicate k (-1)) (List.replicate k (-1)) wr)) (fun i _ => n - (intOf i).toNat)
  case atStart => exact ⟨0, _, _, rfl, Nat.zero_le _, HT0⟩
  case round =>
    clear HT0
    obtain ⟨k, e, o, rfl, hk, hT⟩ := hrel
    have c0 := blkc0 hT.out.gb 0 _ rfl
    have c1 := blkc0 hT.out.gb 1 _ rfl
    by_cases hlt : k < n
    · have i1 : (k : Int) < (n : Int) := by omega
      (have y0 := blkc0 hT.out.blk 0 _ rfl
       have y1 := blkc0 hT.out.blk 1 _ rfl
       have y2 := blkc0 hT.out.blk 2 _ rfl
       have y3 := blkc0 hT.out.blk 3 _ rfl
       have y4 := blkc0 hT.out.blk 4 _ rfl
       have y5 := blkc0 hT.out.blk 5 _ rfl)
      have y7 : s < wr.heap.size := heap_lt0 hT.out.blk
      have hrl : ∀ j : Nat, (List.replicate j (-1 : Int)).length = j := fun j => by simp
      have HRL := Lib.hid hrl
      have hk4 : k ≤ 4096 := by omega
      clear hrl
      go_upto_block 1 with fail
      go_cut [] (fun wc => ∃ e' o', Hid (Tw2 w (s + 1) s b (n : Int) (.slice A es.length c) (.slice mA n mc) e' o' e' o' (List.replicate (k + 1) (-1)) (List.replicate (k + 1) (-1)) wc))
      case first =>
        (go_wp2_with fail
         go_region_law
           (first
             | (go_loud (
                refine step_app EI_int rfl (.tmp 26) (.tmp 27) rfl (s + 1) e (List.replicate k (-1 : Int)).length (icells (List.replicate k (-1))) rfl ?_ (some ⟨_, 0, none⟩) 1 1 [.int .i64 (-1)] rfl ?_ rfl ?_ ?_ ?_ ?_
                · first | (refine (hT.out.go ?_).oe; (repeat (first | with_reducible exact Below.refl _ _ | with_reducible assumption | with_reducible refine below_drewN0 ?_ _ | with_reducible refine Below.drew ?_ | with_reducible refine Below.alloc ?_ ?_ _ | with_reducible refine Below.setCell ?_ ?_ _ | go_size | exact Below.size (by assumption))); done) | (refine (hT2.go ?_).oe; (repeat (first | with_reducible exact Below.refl _ _ | with_reducible assumption | with_reducible refine below_drewN0 ?_ _ | with_reducible refine Below.drew ?_ | with_reducible refine Below.alloc ?_ ?_ _ | with_reducible refine Below.setCell ?_ ?_ _ | go_size | exact Below.size (by assumption))); done)
                · (first | exact reads_new _ [_] _ | exact reads_new' _ _ [_] _ | (refine (reads_new wr [.int .i64 (-1)] 3).below ?_; (repeat (first | with_reducible exact Below.refl _ _ | with_reducible assumption | with_reducible refine below_drewN0 ?_ _ | with_reducible refine Below.drew ?_ | with_reducible refine Below.alloc ?_ ?_ _ | with_reducible refine Below.setCell ?_ ?_ _ | go_size | exact Below.size (by assumption))); done) | (refine Reads.grown ?_ hg2 (fun a ha e' => by cases ha; have h9 := (own_lt0 hT.out.oo _ e').2; (try simp at h9); (try omega)); first | exact reads_new _ [_] _ | exact reads_new' _ _ [_] _ | (refine (reads_new wr [.int .i64 (-1)] 3).below ?_; (repeat (first | with_reducible exact Below.refl _ _ | with_reducible assumption | with_reducible refine below_drewN0 ?_ _ | with_reducible refine Below.drew ?_ | with_reducible refine Below.alloc ?_ ?_ _ | with_reducible refine Below.setCell ?_ ?_ _ | go_size | exact Below.size (by assumption))); done)))
                · simp [Value.oneCell']
                · rw [HRL.out]; omega
                · first | (refine (hT.out.go ?_).bB; (repeat (first | with_reducible exact Below.refl _ _ | with_reducible assumption | with_reducible refine below_drewN0 ?_ _ | with_reducible refine Below.drew ?_ | with_reducible refine Below.alloc ?_ ?_ _ | with_reducible refine Below.setCell ?_ ?_ _ | go_size | exact Below.size (by assumption))); done) | (refine (hT2.go ?_).bB; (repeat (first | with_reducible exact Below.refl _ _ | with_reducible assumption | with_reducible refine below_drewN0 ?_ _ | with_reducible refine Below.drew ?_ | with_reducible refine Below.alloc ?_ ?_ _ | with_reducible refine Below.setCell ?_ ?_ _ | go_size | exact Below.size (by assumption))); done)
                intro v1 w1 hown1 hg1 hat1
                obtain ⟨A1, c1, rfl, hc1, _⟩ := own_reads0 hown1
                first | (have hT1 := (hT2.go (by (repeat (first | with_reducible exact Below.refl _ _ | with_reducible assumption | with_reducible refine below_drewN0 ?_ _ | with_reducible refine Below.drew ?_ | with_reducible refine Below.alloc ?_ ?_ _ | with_reducible refine Below.setCell ?_ ?_ _ | go_size | exact Below.size (by assumption))); done)).appE (-1) hown1 hg1 hat1) | (have hT1 := (hT.out.go (by (repeat (first | with_reducible exact Below.refl _ _ | with_reducible assumption | with_reducible refine below_drewN0 ?_ _ | with_reducible refine Below.drew ?_ | with_reducible refine Below.alloc ?_ ?_ _ | with_reducible refine Below.setCell ?_ ?_ _ | go_size | exact Below.size (by assumption))); done)).appE (-1) hown1 hg1 hat1)
                have p3 := blkc0 hT1.blk 3 _ rfl
                have p4 := blkc0 hT1.blk 4 _ rfl
                have p5 := blkf0 hT1.blk 3
                have p6 := blkf0 hT1.blk 4
                have p7 : s < w1.heap.size := heap_lt0 hT1.blk))
             | (go_loud (
                refine step_app EI_int rfl (.tmp 32) (.tmp 33) rfl (s + 1) o (List.replicate k (-1 : Int)).length (icells (List.replicate k (-1))) rfl ?_ (some ⟨_, 0, none⟩) 1 1 [.int .i64 (-1)] rfl ?_ rfl ?_ ?_ ?_ ?_
                · first | (refine (hT.out.go ?_).oo; (repeat (first | with_reducible exact Below.refl _ _ | with_reducible assumption | with_reducible refine below_drewN0 ?_ _ | with_reducible refine Below.drew ?_ | with_reducible refine Below.alloc ?_ ?_ _ | with_reducible refine Below.setCell ?_ ?_ _ | go_size | exact Below.size (by assumption))); done) | (refine (hT1.go ?_).oo; (repeat (first | with_reducible exact Below.refl _ _ | with_reducible assumption | with_reducible refine below_drewN0 ?_ _ | with_reducible refine Below.drew ?_ | with_reducible refine Below.alloc ?_ ?_ _ | with_reducible refine Below.setCell ?_ ?_ _ | go_size | exact Below.size (by assumption))); done)
                · (first | exact reads_new _ [_] _ | exact reads_new' _ _ [_] _ | (refine (reads_new wr [.int .i64 (-1)] 3).below ?_; (repeat (first | with_reducible exact Below.refl _ _ | with_reducible assumption | with_reducible refine below_drewN0 ?_ _ | with_reducible refine Below.drew ?_ | with_reducible refine Below.alloc ?_ ?_ _ | with_reducible refine Below.setCell ?_ ?_ _ | go_size | exact Below.size (by assumption))); done) | (refine Reads.grown ?_ hg1 (fun a ha e' => by cases ha; have h9 := (own_lt0 hT.out.oe _ e').2; (try simp at h9); (try omega)); first | exact reads_new _ [_] _ | exact reads_new' _ _ [_] _ | (refine (reads_new wr [.int .i64 (-1)] 3).below ?_; (repeat (first | with_reducible exact Below.refl _ _ | with_reducible assumption | with_reducible refine below_drewN0 ?_ _ | with_reducible refine Below.drew ?_ | with_reducible refine Below.alloc ?_ ?_ _ | with_reducible refine Below.setCell ?_ ?_ _ | go_size | exact Below.size (by assumption))); done)))
                · simp [Value.oneCell']
                · rw [HRL.out]; omega
                · first | (refine (hT.out.go ?_).bB; (repeat (first | with_reducible exact Below.refl _ _ | with_reducible assumption | with_reducible refine below_drewN0 ?_ _ | with_reducible refine Below.drew ?_ | with_reducible refine Below.alloc ?_ ?_ _ | with_reducible refine Below.setCell ?_ ?_ _ | go_size | exact Below.size (by assumption))); done) | (refine (hT1.go ?_).bB; (repeat (first | with_reducible exact Below.refl _ _ | with_reducible assumption | with_reducible refine below_drewN0 ?_ _ | with_reducible refine Below.drew ?_ | with_reducible refine Below.alloc ?_ ?_ _ | with_reducible refine Below.setCell ?_ ?_ _ | go_size | exact Below.size (by assumption))); done)
                intro v2 w2 hown2 hg2 hat2
                obtain ⟨A2, c2, rfl, hc2, _⟩ := own_reads0 hown2
                first | (have hT2 := (hT1.go (by (repeat (first | with_reducible exact Below.refl _ _ | with_reducible assumption | with_reducible refine below_drewN0 ?_ _ | with_reducible refine Below.drew ?_ | with_reducible refine Below.alloc ?_ ?_ _ | with_reducible refine Below.setCell ?_ ?_ _ | go_size | exact Below.size (by assumption))); done)).appO (-1) hown2 hg2 hat2) | (have hT2 := (hT.out.go (by (repeat (first | with_reducible exact Below.refl _ _ | with_reducible assumption | with_reducible refine below_drewN0 ?_ _ | with_reducible refine Below.drew ?_ | with_reducible refine Below.alloc ?_ ?_ _ | with_reducible refine Below.setCell ?_ ?_ _ | go_size | exact Below.size (by assumption))); done)).appO (-1) hown2 hg2 hat2)
                have q3 := blkc0 hT2.blk 3 _ rfl
                have q4 := blkc0 hT2.blk 4 _ rfl
                have q5 := blkf0 hT2.blk 3
                have q6 := blkf0 hT2.blk 4
                have q7 : s < w2.heap.size := heap_lt0 hT2.blk)))
         all_goals
           go_wp2_with fail
           go_meet
           have hr1 := List.replicate_succ' (n := k) (a := (-1 : Int))
           rw [hr1]
           first
             | (have h9 := hT2.set; simp only [List.length_replicate] at h9; exact ⟨_, _, Lib.hid h9⟩)
             | (have h9 := hT1.set; simp only [List.length_replicate] at h9; exact ⟨_, _, Lib.hid h9⟩))
      case rest =>
        obtain ⟨e', o', hT'⟩ := hcut
        go_wp2_with fail
        exact ⟨⟨k + 1, e', o', by go_num, by omega, hT'⟩, by simp [intOf]; omega⟩
    · obtain rfl : k = n := by omega
      have i1 : ¬ (k : Int) < (k : Int) := by omega
      have HF := mfree_any mA mc wr (HRM.out.below hT.out.below) (by omega : k ≤ 1000000)
      go_upto_region 7 with (go_at_call 49; (refine HF.mono ?_; rintro e9 w1 ⟨v, rfl, ho⟩))
      obtain ⟨lA, lc, rfl, hlc, hlr⟩ := ho.slice
      have hT1 := hT.out.go ho.2
      have hlA : ∀ q, lA = some q → wr.heap.size ≤ q.block := fun q hq => by subst hq; exact (own_lt0 ho.1 q.block rfl).1
      obtain ⟨F, hF⟩ : ∃ F, F = freeL k M := ⟨_, rfl⟩
      have hFm : ∀ r, r ∈ F ↔ r < k ∧ M r = none := fun r => by rw [hF]; exact mem_freeL
      rw [← hF] at hlr hlc ⊢
      by_cases h0 : k = 0
      · subst h0
        obtain rfl : F = [] := List.eq_nil_iff_forall_not_mem.2 fun r hr => by have := ((hFm r).1 hr).1; omega
        have z3 := blkc0 hT1.blk 3 _ rfl
        have z4 := blkc0 hT1.blk 4 _ rfl
        have z5 := blkc0 hT1.blk 5 _ rfl
        obtain ⟨Ae, ce, rfl, hce, _⟩ := own_reads0 hT1.oe
        obtain ⟨Ao, co, rfl, hco, _⟩ := own_reads0 hT1.oo
        have HT1 := Lib.hid hT1
        clear hT1 hT HF c0 c1 hF hFm
        go_wp2_with fail
        go_rounds 1
        go_upto_region 11 with fail
        go_quiet (fail)
        go_wp2_with fail
        go_ret3
        exact ⟨Ae, Ao, ce, co, fun _ => -1, fun _ => -1, -1, rfl, Nat.zero_le _, Nat.zero_le _, .inl rfl, .inl rfl, LevOf.start.congr fun q => ⟨fun h => h.elim, fun ⟨r, hr, _⟩ => by omega⟩, below_drewN0 HT1.out.below _⟩
      · obtain ⟨be, ce, he, hce, hbe, hbel, _, _⟩ := own_block hT1.oe (by simp; omega)
        obtain ⟨bo, co, ho', hco, hbo, hbol, _, _⟩ := own_block hT1.oo (by simp; omega)
        simp only [List.length_replicate] at he ho' hce hco
        subst he ho'
        have hneo : be ≠ bo := fun e => hT1.ne be rfl (by rw [e]; rfl)
        obtain ⟨L, hL⟩ : ∃ L : LvL, L = ⟨k, es, A, c, mA, mc, s, be, bo, ce, co⟩ := ⟨_, rfl⟩
        have hRA := HR.out.below hT1.below
        have hRM := HRM.out.below hT1.below
        have hbs := HBS.out
        have hrep : List.replicate k (-1 : Int) = rowL k (fun _ => -1) := by simp [rowL, List.map_const']
        have hW1 : LvW L M (fun _ => -1) (fun _ => -1) (-1) w1 := by
          rw [hL]
          have h1 := hT1.oe
          have h2 := hT1.oo
          rw [hrep] at h1 h2
          rw [rowL_length] at h1 h2
          exact ⟨hT1.blk, own_cast h1 (Nat.zero_le _) rfl rfl, own_cast h2 (Nat.zero_le _) rfl rfl, hRA, hRM, ⟨by show s ≠ be; omega, by show s ≠ bo; omega, hneo⟩, fun q hq => by have := hA q hq; exact ⟨by show q.block ≠ s; omega, by show q.block ≠ be; omega, by show q.block ≠ bo; omega⟩, fun q hq => by have := hmA q hq; exact ⟨by show q.block ≠ s; omega, by show q.block ≠ be; omega, by show q.block ≠ bo; omega⟩⟩
        have hlA2 : ∀ q, lA = some q → q.block ≠ L.s ∧ q.block ≠ L.e ∧ q.block ≠ L.o := fun q hq => by
          have h1 := hlA q hq
          have h2 : s < wr.heap.size := heap_lt0 hT.out.blk
          have h3 := (own_lt0 hT.out.oe be rfl).2
          have h4 := (own_lt0 hT.out.oo bo rfl).2
          rw [hL]
          exact ⟨by show q.block ≠ s; omega, by show q.block ≠ be; omega, by show q.block ≠ bo; omega⟩
        have hO : ∀ (W : World) (r : Nat) (Sn : List Nat → Prop) (ev od : Nat → Int) (best : Int) (pA : Option Addr), M r = none → r < k → LvW L M ev od best W → LevOf k M Sn ev od best → Reads W pA (icells [(r : Int)]) → (∀ q, pA = some q → q.block ≠ L.s ∧ q.block ≠ L.e ∧ q.block ≠ L.o) →
            Calls Try.prog 144 #[.pointer (some ⟨s, 0, none⟩), .slice pA 1 1] W (OnPost L M Sn [r] W) := fun W r Sn ev od best pA hr hrk h1 h2 h3 h4 => by
          have h := on_any L (M := M) (by rw [hL]; exact HP.out) (by rw [hL]; exact HM.out) (by rw [hL]; exact hc) k r [] Sn ev od best pA 1 W (.root hr) (fun x hx => by simp at hx; rw [hx, hL]; exact hrk) (by rw [hL]; simp; omega) h1 (by rw [hL]; exact h2) h3 (Nat.le_refl _) h4
          have e : L.s = s := by rw [hL]
          rw [e] at h
          exact h
        have hbl : s < w1.heap.size ∧ be < w1.heap.size ∧ bo < w1.heap.size := ⟨heap_lt0 hT1.blk, hbel, hbol⟩
        have HW1 := Lib.hid hW1
        have HO := Lib.hid hO
        have HLR := Lib.hid hlr
        have HLB := Lib.hid (show Below w.heap.size w w1 from hT1.below)
        have HLL := Lib.hid hL
        have HLA2 := Lib.hid hlA2
        have HFM := Lib.hid hFm
        have HSZ := Lib.hid (And.intro hbl (And.intro hbe hbo))
        have hFl : (natI F).length = F.length := natI_len F
        have hFk : F.length ≤ k := by rw [hF]; exact freeL_le k M
        rw [hFl] at hlc ⊢
        have hlo : w.heap.size ≤ s := by omega
        clear hT1 hT HF c0 c1 hW1 hO hlr hL hlA2 hFm hbl hRA hRM hrep hlA ho hF hFl hbs hneo
        go_wp2_with fail
        go_loopw [10] (fun i wq => ∃ (j : Nat) (ev od : Nat → Int) (best : Int), i = .int .i64 j ∧ j ≤ F.length ∧ Hid (LvW L M ev od best wq) ∧ Hid (LevOf k M (fun q => ∃ (i r : Nat), i < j ∧ F[i]? = some r ∧ Onw (adjE es) M [r] q) ev od best) ∧ Hid (Tch L.s L.e L.o w1 wq)) (fun i _ => F.length - (intOf i).toNat)
        case atStart => exact ⟨0, _, _, _, rfl, Nat.zero_le _, HW1, Lib.hid (LevOf.start.congr fun q => ⟨fun h => h.elim, fun ⟨i, r, hi, _⟩ => by omega⟩), Lib.hid Tch.refl⟩
        case round =>
          clear HW1
          obtain ⟨j, ev, od, best, rfl, hj, hW, hV, hT⟩ := hrel
          by_cases hlt' : j < F.length
          · obtain ⟨r, hr⟩ : ∃ r, F[j]? = some r := ⟨F[j], by simp [hlt']⟩
            have hm := (HFM.out r).1 (List.mem_of_getElem? hr)
            obtain ⟨lb, lo, hlA, hlbl, cl⟩ := (hT.out.reads HLR.out HLA2.out).int j _ (natI_get hr)
            rw [hlA]
            have HLA := Lib.hid hlA
            have HR9 := Lib.hid hr
            have i1 : (j : Int) < (F.length : Int) := by omega
            have i2 : (0 : Int) ≤ (j : Int) := by omega
            have hal : Below wr.heap.size wr (wr.alloc (Obj.cells #[Value.int .i64 (r : Int)] 3)) := (Below.refl _ _).alloc (Nat.le_refl _) _
            have hsz := hT.out.size
            have HON := HO.out (wr.alloc (Obj.cells #[Value.int .i64 (r : Int)] 3)) r _ ev od best (some ⟨wr.heap.size, 0, none⟩) hm.2 hm.1 (hW.out.go hal) hV.out (reads_new wr [_] _) (fun q hq => by
              cases hq
              have h1 := HSZ.out.1
              rw [HLL.out]
              exact ⟨by show wr.heap.size ≠ s; omega, by show wr.heap.size ≠ be; omega, by show wr.heap.size ≠ bo; omega⟩)
            clear hlA hr hm
            go_wp2_with (go_at_call 144; ((with_reducible refine HON.mono ?_); rintro e9 w3 ⟨rfl, ev3, od3, best3, hW3, hV3, hT3⟩))
            refine ⟨⟨j + 1, ev3, od3, best3, by go_num, by omega, hW3, Lib.hid (LevOf.congr (by rw [HLL.out] at hV3; exact hV3) fun q => ?_), Lib.hid ((hT.out.trans (Tch.of hal)).trans hT3)⟩, by simp [intOf]; omega⟩
            have hEs : L.es = es := by rw [HLL.out]
            constructor
            · rintro (⟨i, r', h1, h2, h3⟩ | h3)
              · exact ⟨i, r', by omega, h2, h3⟩
              · exact ⟨j, r, by omega, HR9.out, h3⟩
            · rintro ⟨i, r', h1, h2, h3⟩
              by_cases e : i = j
              · subst e
                rw [HR9.out] at h2
                cases h2
                exact .inr h3
              · exact .inl ⟨i, r', by omega, h2, h3⟩
          · have i1 : ¬ (j : Int) < (F.length : Int) := by omega
            have hW' := hW.out
            rw [HLL.out] at hW'
            have hblk : wr.heap[s]? = some (.cells #[.int .i64 (k : Int), .slice A es.length c, .slice mA k mc, .slice (some ⟨be, 0, none⟩) k ce, .slice (some ⟨bo, 0, none⟩) k co, .int .i64 best] 161 (0, 0)) := hW'.blk
            have z3 := blkc0 hblk 3 _ rfl
            have z4 := blkc0 hblk 4 _ rfl
            have z5 := blkc0 hblk 5 _ rfl
            have HW' := Lib.hid hW'
            have hbel9 : Below w.heap.size w wr := by
              have h1 := hT.out
              have hsz := HSZ.out
              rw [HLL.out] at h1
              refine HLB.out.trans ⟨h1.os, h1.tape, h1.output, h1.size, fun g hg => h1.block g (by have := HLB.out.size; omega) ?_ ?_ ?_⟩
              · show g ≠ s; omega
              · show g ≠ be; omega
              · show g ≠ bo; omega
            have HB9 := Lib.hid hbel9
            clear hW' hblk hbel9
            go_wp2_with fail
            go_quiet (fail)
            go_wp2_with fail
            go_ret3
            refine ⟨some ⟨be, 0, none⟩, some ⟨bo, 0, none⟩, ce, co, ev, od, best, rfl, hce, hco, ?_, ?_, hV.out.congr fun q => ?_, below_drewN0 HB9.out _⟩
            · exact (own_reads1 HW'.out.re).1.below (below_drewN0 (Below.refl _ _) _)
            · exact (own_reads1 HW'.out.ro).1.below (below_drewN0 (Below.refl _ _) _)
            · constructor
              · rintro ⟨i, r, h1, h2, h3⟩
                have hm := (HFM.out r).1 (List.mem_of_getElem? h2)
                exact ⟨r, hm.1, hm.2, h3⟩
              · rintro ⟨r, h1, h2, h3⟩
                obtain ⟨i, hi, he⟩ := List.getElem_of_mem ((HFM.out r).2 ⟨h1, h2⟩)
                exact ⟨i, r, by omega, by rw [List.getElem?_eq_getElem hi, he], h3⟩
end Go.Proofs.Ytgddfmfiiodgbaa

/- Walk of the reference's Labels. -/
namespace Go.Proofs.Ytgddfmfiiodgbaa
open Go Go.RowKit
set_option maxRecDepth 100000
set_option linter.unusedVariables false
set_option linter.unusedSimpArgs false

theorem labL_succ (k : Nat) (S : FoS) : labL (k + 1) S = labL k S ++ [((labF S k : Nat) : Int)] := by unfold labL; rw [List.range_succ]; simp
theorem labL_len (k : Nat) (S : FoS) : (labL k S).length = k := by simp [labL]


set_option maxHeartbeats 2000000 in
theorem rlabels_any {n : Nat} {es : List (Int × Int)} {M : Nat → Option Nat} {S : FoS} {D : Nat → Nat} (hP : RightP n es) (hM : IsMat n (adjE es) M) (hFI : FInv n (adjE es) M S D) (hCl : Closed (adjE es) M S) (A mA : Option Addr) (c mc : Nat) (w : World) (hr : Reads w A (pcells es)) (hc : es.length ≤ c) (hrm : Reads w mA (icells (mateL n M))) (hA : ∀ q, A = some q → q.block < w.heap.size) (hmA : ∀ q, mA = some q → q.block < w.heap.size) :
    Calls Try.prog 43 #[.agg #[.int .i64 (n : Int), .slice A es.length c], .slice mA n mc] w fun e w' => ∃ v, e = .returned v ∧ OwnI w w' v (labL n S) := by
  have hn4 : n ≤ 4096 := by have := hP.n1; omega
  have HLV := fun (W : World) (h : Below w.heap.size w W) => levels_any hP hM A mA c mc W (hr.below h) hc (hrm.below h) (fun q hq => Nat.lt_of_lt_of_le (hA q hq) h.size) (fun q hq => Nat.lt_of_lt_of_le (hmA q hq) h.size)
  have HG := Lib.hid (right_gr hP)
  have HM := Lib.hid hM
  have HFI := Lib.hid hFI
  have HCl := Lib.hid hCl
  clear hr hrm hP hM hA hmA hFI hCl
  go_enter Try.func43, Try.ntmps43
  go_upto_region 1 with fail
  (have hX1 := Box2.new (Below.refl w.heap.size w) (Value.int IntKind.i64 (n : Int)) (Value.slice A es.length c) 25
   generalize w.alloc (Obj.cells #[Value.int IntKind.i64 (n : Int), Value.slice A es.length c] 25) = w1 at hX1 ⊢
   have c0 := hX1.c0
   have c1 := hX1.c1)
  have HB1 := HLV w1 hX1.below
  clear HLV
  go_upto_region 2 with (go_at_call 102; (refine HB1.mono ?_; rintro e w2 ⟨Ae, Ao, ce, co, ev, od, best, rfl, hce, hco, hre, hro, hV, hb2⟩))
  have hX2 := hX1.go hb2
  have HX2 := Lib.hid hX2
  have HRE := Lib.hid hre
  have HRO := Lib.hid hro
  have HL := Lib.hid (fun (v : Nat) (hv : v < n) => lev_lab HG.out HM.out HFI.out HCl.out hV hv)
  clear hX1 hX2 hre hro hV hb2 c0 c1 HB1 w1
  go_wp2_with fail
  go_loopw [8, 9] (fun r i wr => ∃ (v : Nat), i = .int .i64 v ∧ v ≤ n ∧ Hid (OwnI w2 wr r (labL v S))) (fun _ i _ => n - (intOf i).toNat)
  case atStart => exact ⟨0, rfl, Nat.zero_le _, OwnI.nil w2⟩
  case round =>
    obtain ⟨v, rfl, hv, ho⟩ := hrel
    have hX3 := HX2.out.go ho.out.2
    have c0 := hX3.c0
    have HX3 := Lib.hid hX3
    clear hX3
    by_cases hlt : v < n
    · have i1 : (v : Int) < (n : Int) := by omega
      have i2 : (0 : Int) ≤ (v : Int) := by omega
      obtain ⟨eb, eo, hAe, _, ce1⟩ := (HRE.out.below ho.out.2).int v _ (rowL_get (f := ev) hlt)
      obtain ⟨ob, oo, hAo, _, co1⟩ := (HRO.out.below ho.out.2).int v _ (rowL_get (f := od) hlt)
      have hL := HL.out v hlt
      obtain ⟨x, hx⟩ : ∃ x, x = ev v := ⟨_, rfl⟩
      obtain ⟨y, hy⟩ : ∃ y, y = od v := ⟨_, rfl⟩
      rw [← hx] at ce1 hL
      rw [← hy] at co1 hL
      rw [hAe, hAo]
      obtain ⟨A0, c9, rfl, hc9, _⟩ := ho.out.slice
      have HAL := Lib.hid (show (labL v S).length ≤ 10000000 by rw [labL_len]; omega)
      clear hx hy hAe hAo
      by_cases h0 : 0 ≤ x
      · rw [if_pos h0] at hL
        have d1 : decide ((0 : Int) ≤ x) = true := decide_eq_true h0
        (have hs := Lib.hid (show labL (v + 1) S = labL v S ++ [(1 : Int)] by rw [labL_succ, hL]; rfl)
         clear hL
         go_wp2_with (at_builtin; go_loud ((refine wpList_snocI EI_int rfl (.tmp 32) (.tmp 33) rfl ho.out rfl ((1 : Int)) wr.heap.size rfl rfl HAL.out ?_); intro A2 c2 w2 ho2 _ _))
         refine ⟨⟨v + 1, by go_num, by omega, ?_⟩, by simp [intOf]; omega⟩
         rw [hs.out]
         simpa using Lib.hid ho2)
      · rw [if_neg h0] at hL
        have d1 : decide ((0 : Int) ≤ x) = false := decide_eq_false h0
        by_cases h1 : 0 ≤ y
        · rw [if_pos h1] at hL
          have d2 : decide ((0 : Int) ≤ y) = true := decide_eq_true h1
          (have hs := Lib.hid (show labL (v + 1) S = labL v S ++ [(2 : Int)] by rw [labL_succ, hL]; rfl)
           clear hL
           go_wp2_with (at_builtin; go_loud ((refine wpList_snocI EI_int rfl (.tmp 41) (.tmp 42) rfl ho.out rfl ((2 : Int)) wr.heap.size rfl rfl HAL.out ?_); intro A2 c2 w2 ho2 _ _))
           refine ⟨⟨v + 1, by go_num, by omega, ?_⟩, by simp [intOf]; omega⟩
           rw [hs.out]
           simpa using Lib.hid ho2)
        · rw [if_neg h1] at hL
          have d2 : decide ((0 : Int) ≤ y) = false := decide_eq_false h1
          (have hs := Lib.hid (show labL (v + 1) S = labL v S ++ [(0 : Int)] by rw [labL_succ, hL]; rfl)
           clear hL
           go_wp2_with (at_builtin; go_loud ((refine wpList_snocI EI_int rfl (.tmp 23) (.tmp 24) rfl ho.out rfl ((0 : Int)) wr.heap.size rfl rfl HAL.out ?_); intro A2 c2 w2 ho2 _ _))
           refine ⟨⟨v + 1, by go_num, by omega, ?_⟩, by simp [intOf]; omega⟩
           rw [hs.out]
           simpa using Lib.hid ho2)
    · obtain rfl : v = n := by omega
      have i1 : ¬ (v : Int) < (v : Int) := by omega
      go_wp2_with fail
      go_ret
      exact ⟨_, rfl, OwnI.base (w1 := w2) ho.out HX2.out.below⟩
end Go.Proofs.Ytgddfmfiiodgbaa
