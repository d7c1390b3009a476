/- Walk of single.Enlarge. -/
import Derived.Test.YtgddfmfiiodgbaaU18
import Derived.Test.YtgddfmfiiodgbaaU24
import Derived.Lib.SliceRun
import Derived.Test.YtgddfmfiiodgbaaU02
import Derived.Test.YtgddfmfiiodgbaaU04
import Derived.Test.YtgddfmfiiodgbaaU07
import Derived.Test.YtgddfmfiiodgbaaU08
import Derived.Test.YtgddfmfiiodgbaaU11
import Derived.Test.YtgddfmfiiodgbaaU03
import Derived.Shelf.Bits.Mul64
namespace Go.Proofs.Ytgddfmfiiodgbaa
open Go Go.RowKit
set_option maxRecDepth 100000
set_option linter.unusedVariables false
set_option linter.unusedSimpArgs false

/-- Neighbours in memory, away from one block. -/
def NearG (w : World) (nA : Option Addr) (n : Nat) (nr : Nat → List Nat) (g : Nat) : Prop :=
  ∀ v, v < n → ∃ nb no A c, nA = some ⟨nb, no, none⟩ ∧ nb < w.heap.size ∧ w.cell? ⟨nb, no + v, none⟩ = some (.slice A (natI (nr v)).length c) ∧ (natI (nr v)).length ≤ c ∧ Reads w A (icells (natI (nr v))) ∧ nb ≠ g ∧ ∀ q, A = some q → q.block ≠ g
theorem NearG.at {w : World} {nA : Option Addr} {n : Nat} {nr : Nat → List Nat} {g : Nat} (h : NearG w nA n nr g) : NearAt w nA n nr := by
  intro v hv
  obtain ⟨nb, no, A, c, h1, h2, h3, h4, h5, _⟩ := h v hv
  exact ⟨nb, no, A, c, h1, h2, h3, h4, h5⟩
theorem NearG.but {w w' : World} {nA : Option Addr} {n : Nat} {nr : Nat → List Nat} {g : Nat} (h : NearG w nA n nr g) (hb : But w.heap.size g w w') : NearG w' nA n nr g := by
  intro v hv
  obtain ⟨nb, no, A, c, h1, h2, h3, h4, h5, h6, h7⟩ := h v hv
  exact ⟨nb, no, A, c, h1, Nat.lt_of_lt_of_le h2 hb.size, (hb.cell (p := ⟨nb, no + v, none⟩) h2 h6).trans h3, h4, h5.but hb h7, h6, h7⟩

/-- A row of one's own at the begin of a block, or nothing at all. -/
def RowO (w : World) (mA : Option Addr) (g : Nat) (l : List Int) : Prop := (mA = some ⟨g, 0, none⟩ ∧ RowI w 3 g l) ∨ l = []
theorem RowO.reads {w : World} {mA : Option Addr} {g : Nat} {l : List Int} (h : RowO w mA g l) : Reads w mA (icells l) := by
  rcases h with ⟨rfl, h⟩ | rfl
  · exact h.reads
  · exact .inl rfl
theorem RowO.keep {w w' : World} {mA : Option Addr} {g : Nat} {l : List Int} (h : RowO w mA g l) (hk : w'.heap[g]? = w.heap[g]?) : RowO w' mA g l := h.imp (fun h => ⟨h.1, hk.trans h.2⟩) id
theorem RowO.old {w : World} {mA : Option Addr} {g : Nat} {l : List Int} (h : RowO w mA g l) (o : Obj) : RowO (w.alloc o) mA g l := h.imp (fun h => ⟨h.1, h.2.old o⟩) id

/-- What holds of Enlarge's world. -/
structure EnW (w : World) (n : Nat) (E : Nat → Nat → Prop) (nr : Nat → List Nat) (mA : Option Addr) (g : Nat) (f : Nat) (wr : World) (M : Nat → Option Nat) (r k : Nat) : Prop where
  mat : IsMat n E M
  row : RowO wr mA g (mateL n M)
  but : But w.heap.size g w wr
  b0 : wr.heap[w.heap.size]? = some (.cells #[.int .i64 0, .int .i64 0] 28 (0, 0))
  b1 : wr.heap[w.heap.size + 1]? = some (.cells #[.int .i64 (r : Int), .int .i64 (k : Int)] 28 (0, 0))
  fr : (freeL n M).length = f
  cnt : 2 * r + f ≤ n
  lk : k ≤ sumD nr (List.range n)

theorem AugW.evenLen {n : Nat} {E : Nat → Nat → Prop} {M : Nat → Option Nat} (hM : IsMat n E M) {p : List Nat} (h : AugW E M p) : p.length % 2 = 0 ∧ p.Nodup := by
  obtain ⟨v, u, l, rfl, hf, hE, hp, hn⟩ := h
  have := (hp.closed hM).2
  exact ⟨by simp at this ⊢; omega, hn⟩
theorem blk2set {w : World} {g : Nat} {a b : Value} {T : TypeId} (h : w.heap[g]? = some (.cells #[a, b] T (0, 0))) (x y : Value) : ((w.setCell ⟨g, 0, none⟩ x).setCell ⟨g, 1, none⟩ y).heap[g]? = some (.cells #[x, y] T (0, 0)) := heap_set2 h x y
theorem nil_is (W : World) (A : Option Addr) (m c : Nat) : (binOp .eql 22 (.slice A m c) (.slice none 0 0)).run Try.prog W = .ok (.bool A.isNone) W := Lib.run_eql_slice_nil _ _ _ _ _ _ _ _ Try.underlying22

/-- What Enlarge leaves. -/
def EnlPost (n : Nat) (E : Nat → Nat → Prop) (nr : Nat → List Nat) (mA : Option Addr) (g : Nat) (w : World) (e : Ending) (w' : World) : Prop :=
  ∃ M' B S D r k, e = .returned (.tuple #[.slice (some ⟨B, 0, none⟩) n n, .agg #[.int .i64 ((r : Nat) : Int), .int .i64 ((k : Nat) : Int)]]) ∧ r ≤ n + 1 ∧ k ≤ sumD nr (List.range n) ∧ IsMat n E M' ∧ RowO w' mA g (mateL n M') ∧ FInv n E M' S D ∧ Closed E M' S ∧
    RowI w' 3 B (labL n S) ∧ w.heap.size ≤ B ∧ But w.heap.size g w w'

set_option maxHeartbeats 4000000 in
theorem enlarge_any {n : Nat} {E : Nat → Nat → Prop} {M : Nat → Option Nat} {nr : Nat → List Nat} (hg : IsGr n E) (hM : IsMat n E M) (hE : ∀ v u, v < n → (E v u ↔ u ∈ nr v)) (hn : n ≤ 1000000) (htot : sumD nr (List.range n) ≤ 1000000000000)
    {nA mA : Option Addr} {nc mc g : Nat} {w : World} (hnear : NearG w nA n nr g) (hR : RowO w mA g (mateL n M)) (hgw : g < w.heap.size) (hc : n ≤ mc) :
    Calls Try.prog 93 #[.slice nA n nc, .slice mA n mc] w (EnlPost n E nr mA g w) := by
  have HS := fun (W : World) (M : Nat → Option Nat) (h1 : IsMat n E M) (h2 : NearG W nA n nr g) (h3 : RowO W mA g (mateL n M)) => search_any (nc := nc) (mc := mc) hg h1 hE hn htot h2.at h3.reads hc
  have HT := fun (W : World) (M : Nat → Option Nat) (p : List Nat) (pA : Option Addr) (pc : Nat) (h3 : RowI W 3 g (mateL n M)) (hr : Reads W pA (icells (natI p))) (hA : ∀ q, pA = some q → q.block ≠ g) (hlt : ∀ x ∈ p, x < n) (hnd : p.Nodup) (he : p.length % 2 = 0) (hcc : p.length ≤ pc) =>
    turn_any (mc := mc) h3 hr hA hlt hnd he hcc hc (by have := length_le_of_nodup hnd hlt; omega)
  have HG := Lib.hid hg
  have HM := Lib.hid hM
  have HN := Lib.hid hnear
  have HR := Lib.hid hR
  have HTOT := Lib.hid htot
  clear hg hM hE hnear htot hR
  go_enter Try.func93, Try.ntmps93
  go_upto_region 1 with fail
  go_wp2_with fail
  obtain ⟨f0, hf0⟩ : ∃ f0, f0 = (freeL n M).length := ⟨_, rfl⟩
  have hstart : EnW w n E nr mA g f0 ((w.alloc (Obj.cells #[Value.int IntKind.i64 0, Value.int IntKind.i64 0] 28)).alloc (Obj.cells #[Value.int IntKind.i64 0, Value.int IntKind.i64 0] 28)) M 0 0 :=
    ⟨HM.out, (HR.out.old _).old _, ((But.refl _ _ _).alloc (Nat.le_refl _) _).alloc (by rw [World.size_alloc]; omega) _, heap_old (heap_alloc_new _ _), (by have := heap_alloc_new (w.alloc (Obj.cells #[Value.int IntKind.i64 0, Value.int IntKind.i64 0] 28)) (Obj.cells #[Value.int IntKind.i64 0, Value.int IntKind.i64 0] 28); rw [World.size_alloc] at this; exact this), hf0.symm, (by rw [hf0]; have := length_le_of_nodup (nodup_freeL n M) (fun x hx => (mem_freeL.1 hx).1); omega), Nat.zero_le _⟩
  have HSTART := Lib.hid hstart
  clear hstart hf0
  go_loopg [] f0 (fun f wr => ∃ M r k, Hid (EnW w n E nr mA g f wr M r k))
  case atStart => exact ⟨M, 0, 0, HSTART⟩
  case round =>
    clear HSTART HM HR
    obtain ⟨M, r, k, hW⟩ := hrel
    have HSr := HS wr M hW.out.mat (HN.out.but hW.out.but) hW.out.row
    have hszr := hW.out.but.size
    have hb1lt : w.heap.size + 1 < wr.heap.size := heap_lt0 hW.out.b1
    have HB1 := Lib.hid hb1lt
    have hrr : IntKind.i64.wrap ((r : Int) + 1) = ((r + 1 : Nat) : Int) := by rw [IntKind.wrap_i64]; have := hW.out.cnt; omega
    clear hb1lt
    go_upto_region 3 with (go_at_call 98; (refine HSr.mono ?_; rintro e w2 h2; rcases h2 with ⟨p, g2, c2, lk, rfl, hlk, haug, hplt, hown, hb⟩ | ⟨B, S, D, lk, rfl, hlk, hinv, hcl, hrow, hBs, hb⟩))
    · have h1 := (hb.block _ (by have := HB1.out; omega)).trans hW.out.b1
      have HH := Lib.hid h1
      have c0 := blkc0 h1 0 _ rfl
      have c1 := blkc0 h1 1 _ rfl
      have z1 := blkf0 h1 0
      have z2 := blkf0 h1 1
      clear h1
      go_cut [7, 8] (fun a b wc => ∃ m : Nat, a = .slice (some ⟨g2, 0, none⟩) (natI p).length c2 ∧ m ≤ sumD nr (List.range n) ∧ Hid (wc.heap[w.heap.size + 1]? = some (.cells #[.int .i64 ((r + 1 : Nat) : Int), .int .i64 (m : Int)] 28 (0, 0))) ∧ Hid (But w2.heap.size (w.heap.size + 1) w2 wc))
      case first =>
        go_wp2_with fail
        all_goals
          go_meet
        · exact ⟨lk, rfl, hlk, heap_set2 HH.out _ _, ((But.refl _ _ _).set 0 _).set 1 _⟩
        · exact ⟨k, rfl, hW.out.lk, heap_set2 HH.out _ _, ((But.refl _ _ _).set 0 _).set 1 _⟩
      case rest =>
        clear c0 c1 z1 z2 HH
        obtain ⟨m, rfl, hm, hb1, hbt⟩ := hcut
        have hnil := nil_is wc (some ⟨g2, 0, none⟩) (natI p).length c2
        have hlt1 := HB1.out
        have hsz2 := hb.size
        have hszc := hbt.out.size
        have hrowO : RowO wc mA g (mateL n M) := hW.out.row.keep ((hbt.out.block g (by omega) (by omega)).trans (hb.block g (by omega)))
        have hnp : mateL n M ≠ [] := fun e => by
          have h1 := congrArg List.length e
          rw [mateL_length] at h1
          obtain ⟨v, u, l, rfl, _⟩ := haug
          have := hplt v (by simp)
          simp at h1
          omega
        obtain ⟨hmA, hrow2⟩ := hrowO.resolve_right hnp
        subst hmA
        have hb0 : wc.heap[w.heap.size]? = _ := (hbt.out.block _ (by omega) (by omega)).trans ((hb.block _ (by omega)).trans hW.out.b0)
        obtain ⟨hrd, hlc, _⟩ := own_reads1 hown
        have hg2 := own_lt0 hown g2 rfl
        have hrd2 := hrd.but hbt.out (fun q hq => by cases hq; show g2 ≠ _; omega)
        have hev := haug.evenLen hW.out.mat
        have hnl := natI_length p
        rw [hnl] at hlc
        have hTU := HT wc M p (some ⟨g2, 0, none⟩) c2 hrow2 hrd2 (fun q hq => by cases hq; show g2 ≠ g; omega) hplt hev.2 hev.1 hlc
        have htn := haug.turn HG.out hW.out.mat
        have hbut2 : But w.heap.size g wr wc := ⟨hbt.out.os.trans hb.os, hbt.out.tape.trans hb.tape, hbt.out.output.trans hb.output, by omega, fun j hj hjg => (hbt.out.block j (by omega) (by omega)).trans (hb.block j (by omega))⟩
        have HNX := Lib.hid (show ∀ wf, RowI wf 3 g (mateL n (turnF p M)) → But wc.heap.size g wc wf → EnW w n E nr (some ⟨g, 0, none⟩) g (freeL n (turnF p M)).length wf (turnF p M) (r + 1) m from fun wf h1 h2 =>
          ⟨htn.1, .inl ⟨rfl, h1⟩, (hW.out.but.trans hbut2).trans (h2.mono (by omega)), (h2.block _ (by omega) (by omega)).trans hb0, (h2.block _ (by omega) (by omega)).trans hb1.out, rfl, by have := hW.out.cnt; have := htn.2; have := hW.out.fr; omega, hm⟩)
        have HFL := Lib.hid (show (freeL n (turnF p M)).length < (freeL n M).length by have := htn.2; omega)
        have HFR := Lib.hid hW.out.fr
        rw [hnl] at hnil ⊢
        clear hlt1 hsz2 hszc hrow2 hrowO hnp hb0 hrd hlc hg2 hrd2 hev hnl htn hbut2 hplt haug hown hlk hb hbt hb1 hW HB1 hrr HSr
        go_wp2_with (go_at_call 136; (refine hTU.mono ?_; rintro e wf ⟨rfl, hRf, hbf⟩))
        go_roundg (freeL n (turnF p M)).length
        case rel => exact ⟨_, _, _, HNX.out wf hRf hbf⟩
        case measure => rw [← HFR.out]; exact HFL.out
    · have h1 := (hb.block _ (by have := HB1.out; omega)).trans hW.out.b1
      have HH := Lib.hid h1
      have c0 := blkc0 h1 0 _ rfl
      have c1 := blkc0 h1 1 _ rfl
      have z1 := blkf0 h1 0
      have z2 := blkf0 h1 1
      clear h1
      go_cut [7, 8] (fun a b wc => ∃ m : Nat, a = .slice none 0 0 ∧ b = .slice (some ⟨B, 0, none⟩) n n ∧ m ≤ sumD nr (List.range n) ∧ Hid (wc.heap[w.heap.size + 1]? = some (.cells #[.int .i64 ((r + 1 : Nat) : Int), .int .i64 (m : Int)] 28 (0, 0))) ∧ Hid (But w2.heap.size (w.heap.size + 1) w2 wc))
      case first =>
        go_wp2_with fail
        all_goals
          go_meet
        · exact ⟨lk, rfl, rfl, hlk, heap_set2 HH.out _ _, ((But.refl _ _ _).set 0 _).set 1 _⟩
        · exact ⟨k, rfl, rfl, hW.out.lk, heap_set2 HH.out _ _, ((But.refl _ _ _).set 0 _).set 1 _⟩
      case rest =>
        clear c0 c1 z1 z2 HH
        obtain ⟨m, rfl, rfl, hm, hb1, hbt⟩ := hcut
        have hnil := nil_is wc none 0 0
        have hlt1 := HB1.out
        have hsz2 := hb.size
        have hszc := hbt.out.size
        have hBlt := hrow.lt
        have hrow2 : RowO wc mA g (mateL n M) := hW.out.row.keep ((hbt.out.block g (by omega) (by omega)).trans (hb.block g (by omega)))
        have hrowB : RowI wc 3 B (labL n S) := (hbt.out.block B (by omega) (by omega)).trans hrow
        have hb0 : wc.heap[w.heap.size]? = _ := (hbt.out.block _ (by omega) (by omega)).trans ((hb.block _ (by omega)).trans hW.out.b0)
        have HB0 := Lib.hid hb0
        have HBB := Lib.hid (show w.heap.size < B by omega)
        have hbut2 : But w.heap.size g w wc := hW.out.but.trans ⟨hbt.out.os.trans hb.os, hbt.out.tape.trans hb.tape, hbt.out.output.trans hb.output, by omega, fun j hj hjg => (hbt.out.block j (by omega) (by omega)).trans (hb.block j (by omega))⟩
        have q0 := blkc0 hb0 0 _ rfl
        have q1 := blkc0 hb0 1 _ rfl
        have y0 := blkf0 hb0 0
        have y1 := blkf0 hb0 1
        have p0 := blkc0 hb1.out 0 _ rfl
        have p1 := blkc0 hb1.out 1 _ rfl
        clear hlt1 hsz2 hszc hBlt hlk hb hb0
        have HW := hW
        clear hW
        go_wp2_with fail
        (refine wp_region_rws [0, 0, 1, 2] (by kernel_rfl) (by kernel_rfl) (by kernel_rfl) (fun _ _ d _ _ h => by cases d <;> exact h) ?_
         simp only [pickL, reduceIte, Nat.reduceEqDiff]
         repeat (go_big_quiet_step (fail))
         refine wpQuiet_nil ?_
         repeat (refine wpW_step ?_ ?_ ?_; rotate_left; focus (intro w1; go_simp; first | done | with_reducible rfl))
         refine wpW_nil ?_
         intro _ hw'
         obtain ⟨nq, hw''⟩ := hw'
         subst hw'')
        go_wp2_with fail
        obtain ⟨wf, hwf⟩ : ∃ wf, wf = (((wc.drewN nq).setCell { block := w.heap.size, off := 0 } (Value.int IntKind.i64 ((r : Int) + 1))).setCell { block := w.heap.size, off := 1 } (Value.int IntKind.i64 (m : Int))) := ⟨_, rfl⟩
        rw [← hwf]
        have hfb : wf.heap[w.heap.size]? = some (.cells #[.int .i64 ((r : Int) + 1), .int .i64 (m : Int)] 28 (0, 0)) := by rw [hwf]; exact heap_set2 HB0.out _ _
        have hfbut : But (w.heap.size + 1 + B) w.heap.size wc wf := by rw [hwf]; exact ((But.refl _ _ _).drewN nq |>.set 0 _).set 1 _
        have k0 := blkc0 hfb 0 _ rfl
        have k1 := blkc0 hfb 1 _ rfl
        refine bodyPost_ret (v := .tuple #[.slice (some ⟨B, 0, none⟩) n n, .agg #[.int .i64 ((r : Int) + 1), .int .i64 (m : Int)]]) (by simp [results, Try.results93, go_sem, k0, k1]) rfl ?_
        refine ⟨M, B, S, D, r + 1, m, by push_cast; rfl, by have := HW.out.cnt; omega, hm, HW.out.mat, ?_, hinv, hcl, ?_, by omega, ?_⟩
        · exact hrow2.keep (hfbut.block g (by omega) (by omega))
        · exact (hfbut.block B (by omega) (by have := HBB.out; omega)).trans hrowB
        · exact hbut2.trans (by rw [hwf]; exact ((But.refl _ _ _).drewN nq |>.setCell (p := ⟨w.heap.size, 0, none⟩) (Nat.le_refl _) _).setCell (p := ⟨w.heap.size, 1, none⟩) (Nat.le_refl _) _)
end Go.Proofs.Ytgddfmfiiodgbaa

/- A right graph's edges as a relation; its neighbours in memory. -/
namespace Go.Proofs.Ytgddfmfiiodgbaa
open Go Go.RowKit
set_option maxRecDepth 100000
set_option linter.unusedVariables false
set_option linter.unusedSimpArgs false

/-- Joined. -/
def adjE (es : List (Int × Int)) (v u : Nat) : Prop := ((u : Int), (v : Int)) ∈ es ∨ ((v : Int), (u : Int)) ∈ es
def nrN (es : List (Int × Int)) (v : Nat) : List Nat := (nearL es (v : Int)).map Int.toNat

section
variable {n : Nat} {es : List (Int × Int)}
theorem right_gr (h : RightP n es) : IsGr n (adjE es) := by
  refine ⟨fun hh => hh.symm, fun {v w} hh => ?_, fun v hh => ?_⟩
  · rcases hh with hh | hh <;> have := h.ok _ hh <;> simp at this <;> omega
  · rcases hh with hh | hh <;> have := h.ok _ hh <;> simp at this
theorem near_nonneg (h : RightP n es) (v : Int) : ∀ x ∈ nearL es v, 0 ≤ x ∧ x < n := by
  intro x hx
  rcases mem_nearL.1 hx with hh | hh <;> have := h.ok _ hh <;> simp at this <;> omega
theorem natI_nrN (h : RightP n es) (v : Nat) : natI (nrN es v) = nearL es (v : Int) := by
  unfold natI nrN
  rw [List.map_map]
  conv => rhs; rw [← List.map_id (nearL es (v : Int))]
  apply List.map_congr_left
  intro x hx
  have := near_nonneg h _ x hx
  simp
  omega
theorem nrN_length (v : Nat) : (nrN es v).length = (nearL es (v : Int)).length := by simp [nrN]
theorem mem_nrN (h : RightP n es) (v u : Nat) : adjE es v u ↔ u ∈ nrN es v := by
  unfold adjE nrN
  rw [List.mem_map]
  constructor
  · intro hh; exact ⟨(u : Int), mem_nearL.2 hh, by simp⟩
  · rintro ⟨x, hx, rfl⟩
    have := near_nonneg h _ x hx
    have e : ((x.toNat : Nat) : Int) = x := by omega
    rw [e]
    exact mem_nearL.1 hx
theorem sumD_range (f : Nat → List Nat) (n : Nat) : sumD f (List.range (n + 1)) = sumD f (List.range n) + (f n).length := by
  rw [List.range_succ, sumD_append]; simp [sumD]
theorem sumD_deg (n : Nat) : sumD (nrN es) (List.range n) = degSum es n := by
  induction n with
  | zero => rfl
  | succ k ih => rw [sumD_range, ih, nrN_length]; rfl
theorem sumD_all (h : RightP n es) : sumD (nrN es) (List.range n) = 2 * es.length := by
  rw [sumD_deg]
  exact degSum_all es n (fun e he => by have := h.ok _ he; omega)

theorem near_of_rows (h : RightP n es) {w : World} {B base : Nat} {vs : List Value} (hR : RowsI w 22 3 base B vs (rowsF n (nearL es))) {g : Nat} (hg : g < B) (hB : B ≤ base) : NearG w (some ⟨B, 0, none⟩) n (nrN es) g := by
  intro v hv
  obtain ⟨x, A, c, h1, rfl, h3, h4, h5, h6⟩ := hR.get v _ (rowsF_get n (nearL es) v hv)
  refine ⟨B, 0, A, c, rfl, hR.lt, ?_, ?_, ?_, by omega, ?_⟩
  · rw [natI_nrN h, Nat.zero_add]; exact h6
  · rw [natI_nrN h]; exact h3
  · rw [natI_nrN h]; exact h4
  · intro q hq
    subst hq
    have := own_lt0 h5 q.block rfl
    omega
end
end Go.Proofs.Ytgddfmfiiodgbaa

/- Walk of slices.Repeat at one number. -/
namespace Go.Proofs.Ytgddfmfiiodgbaa
open Go Go.RowKit
set_option maxRecDepth 100000
set_option linter.unusedVariables false
set_option linter.unusedSimpArgs false

def mulLays_ren : Go.Shelf.Ren := ⟨fun | 212 => 178 | 263 => 196 | 264 => 197 | n => n, fun | 46 => 51 | 51 => 196 | 146 => 200 | 53 => 96 | 148 => 202 | n => n, fun | n => n⟩
theorem mulLays : Go.Proofs.Lays.n212 Try.prog mulLays_ren := {
  mixed := by kernel_rfl
  f212 := Try.func178.trans (congrArg some (by kernel_rfl))
  f263 := Try.func196.trans (congrArg some (by kernel_rfl))
  f264 := Try.func197.trans (congrArg some (by kernel_rfl))
  t46 := Try.underlying51
  a46 := Try.isAgg51
  z46 := Try.sizeOf51
  v46 := Try.zeroValue51
  t51 := Try.underlying196
  a51 := Try.isAgg196
  z51 := Try.sizeOf196
  v51 := Try.zeroValue196
  t53 := Try.underlying96
  a53 := Try.isAgg96
  z53 := Try.sizeOf96
  v53 := Try.zeroValue96
  t146 := Try.underlying200
  a146 := Try.isAgg200
  z146 := Try.sizeOf200
  v146 := Try.zeroValue200
  t148 := Try.underlying202
  a148 := Try.isAgg202
  z148 := Try.sizeOf202
  v148 := Try.zeroValue202 }


theorem mul_any (x y : Nat) (hx : x < 18446744073709551616) (hy : y < 18446744073709551616) (w : World) :
    Calls Try.prog 178 #[.int .u64 x, .int .u64 y] w fun e w' => e = .returned (.tuple #[.int .u64 ((x * y / 18446744073709551616 : Nat) : Int), .int .u64 ((x * y % 18446744073709551616 : Nat) : Int)]) ∧ w' = w := Any.bits_Mul mulLays x y hx hy w

/-- So many of one number, then zeros. -/
def repK (x : Int) (n k : Nat) : List Int := List.replicate k x ++ List.replicate (n - k) 0
theorem repK_length (x : Int) {n k : Nat} (h : k ≤ n) : (repK x n k).length = n := by simp [repK]; omega
theorem repK_all (x : Int) (n : Nat) : repK x n n = List.replicate n x := by simp [repK]
theorem repK_step (x : Int) {n k c : Nat} (h : k + c ≤ n) : (repK x n k).take k ++ List.replicate c x ++ (repK x n k).drop (k + c) = repK x n (k + c) := by
  apply List.ext_getElem?
  intro j
  unfold repK
  by_cases h1 : j < k
  · rw [List.append_assoc, List.getElem?_append_left (by simp; omega), List.getElem?_take, if_pos h1, List.getElem?_append_left (by simp; omega), List.getElem?_append_left (by simp; omega)]
    rw [List.getElem?_replicate, List.getElem?_replicate, if_pos h1, if_pos (by omega)]
  · by_cases h2 : j < k + c
    · rw [List.getElem?_append_left (by simp; omega), List.getElem?_append_right (by simp; omega), List.getElem?_append_left (by simp; omega), List.getElem?_replicate, List.getElem?_replicate, if_pos (by simp; omega), if_pos (by omega)]
    · rw [List.getElem?_append_right (by simp; omega), List.getElem?_append_right (by simp; omega), List.drop_append, List.drop_of_length_le (by simp)]
      simp only [List.nil_append, List.getElem?_drop, List.getElem?_replicate]
      simp
      by_cases h3 : j < n
      · rw [if_pos (by omega), if_pos (by omega)]
      · rw [if_neg (by omega), if_neg (by omega)]

theorem rep_copy (x : Int) {n k c B b sl sc dc : Nat} {w : World} (hR : RowI w 3 B (repK x n k)) (hk : k + c ≤ n) {l : List Int} (hr : RowI w 3 b l) (hl : ∀ j, j < c → l[j]? = some x) (hc : c = Nat.min sl (n - k)) :
    (Builtin.copy_ #[22, 22] 3 #[.slice (some ⟨B, k, none⟩) (n - k) dc, .slice (some ⟨b, 0, none⟩) sl sc]).run Try.prog w = .ok (goInt c) (w.setRow B (icells (repK x n (k + c))).toArray) := by
  rw [run_copyN EI_int w _ B k (n - k) dc ⟨b, 0, none⟩ sl sc (icells (repK x n k)) _ (icells (List.replicate c x)) c hc (by simp [icells]) hR (fun j v hj => ?_) (by rw [icells_length, icells_length, repK_length x (by omega)]; simpa using hk) (icells_one _)]
  · congr 3
    rw [← repK_step x hk]
    simp [icells]
  · rw [Go.WideShapes.add_plain, Nat.zero_add]
    have hjc : j < c := by
      rcases Nat.lt_or_ge j c with h | h
      · exact h
      · rw [List.getElem?_eq_none (by rw [icells_length]; simpa using h)] at hj; cases hj
    rw [icells_get _ _ x (by simp [hjc])] at hj
    cases hj
    exact hr.cell (hl j hjc)
theorem setRow_rowI {w : World} {B : Nat} {l l' : List Int} (h : RowI w 3 B l) : RowI (w.setRow B (icells l').toArray) 3 B l' := setRow_heap w B (icells l).toArray _ 3 _ h
theorem setRow_below {a w : World} {B b : Nat} {cs : Array Value} (h : Below B a w) (hb : B ≤ b) : Below B a (w.setRow b cs) :=
  ⟨h.os, h.tape, h.output, by have := h.size; simpa [World.setRow] using this, fun k hk => (setRow_other w b k _ (by omega)).trans (h.block k hk)⟩

set_option maxHeartbeats 1000000 in
theorem repeat_any (x : Int) (n : Nat) (hn : n ≤ 1000000) {b : Nat} {w : World} (hr : RowI w 3 b [x]) :
    Calls Try.prog 154 #[.slice (some ⟨b, 0, none⟩) 1 1, .int .i64 (n : Int)] w fun e w' => ∃ B, e = .returned (.slice (some ⟨B, 0, none⟩) n n) ∧ w.heap.size ≤ B ∧ RowI w' 3 B (List.replicate n x) ∧ Below w.heap.size w w' := by
  have HM := fun W => mul_any 1 n (by omega) (by omega) W
  have e1 : (1 * n / 18446744073709551616 : Nat) = 0 := by omega
  have e2 : (1 * n % 18446744073709551616 : Nat) = n := by omega
  rw [e1, e2] at HM
  have hmk := fun W : World => run_make_row' (P := Try.prog) 22 3 (.int .i64 0) 8 Try.underlying22 (by kernel_rfl) rfl .i64 .i64 n (by omega) (by omega) W
  have HR := Lib.hid hr
  have i1 : ((n : Int) < 0) = False := by simp
  have i2 : ((9223372036854775807 : Int) < (n : Int)) = False := by simp; omega
  have i3 : IntKind.u64.wrap (n : Int) = (n : Int) := by rw [IntKind.wrap_u64]; omega
  have i4 : IntKind.i64.wrap (n : Int) = (n : Int) := by rw [IntKind.wrap_i64]; omega
  clear hr e1 e2
  go_enter Try.func154, Try.ntmps154
  go_upto_region 7 with (go_at_call 178; (refine (HM _).mono ?_; rintro e w2 ⟨rfl, rfl⟩))
  have hg0 : (w2.alloc (Obj.cells (madeCells #[Value.int IntKind.i64 0] n) 3)).heap[w2.heap.size]? = some (.cells (icells (repK x n 0)).toArray 3 (0, 0)) := by
    have := heap_alloc_new w2 (Obj.cells (madeCells #[Value.int IntKind.i64 0] n) 3)
    rw [this, made_zero]
    simp [repK]
  have HG0 := Lib.hid hg0
  have HR1 := Lib.hid (HR.out.old (Obj.cells (madeCells #[Value.int IntKind.i64 0] n) 3))
  have hb0 : Below w2.heap.size w2 (w2.alloc (Obj.cells (madeCells #[Value.int IntKind.i64 0] n) 3)) := (Below.refl _ _).alloc (Nat.le_refl _) _
  have HB0 := Lib.hid hb0
  clear hg0 hb0 hmk i1 i2 i3 i4 HM
  generalize w2.alloc (Obj.cells (madeCells #[Value.int IntKind.i64 0] n) 3) = w3 at HG0 HR1 HB0 ⊢
  have HBN := Lib.hid HR.out.lt
  go_cut [8] (fun a wc => ∃ k : Nat, a = .int .i64 (k : Int) ∧ k ≤ n ∧ (0 < n → 0 < k) ∧ Hid (RowI wc 3 w2.heap.size (repK x n k)) ∧ Hid (Below w2.heap.size w2 wc))
  case first =>
    have hcp := rep_copy x (k := 0) (sc := 1) (dc := n) HG0.out (by rw [Nat.zero_add]; exact Nat.min_le_right 1 n) HR1.out (fun j hj => by
      have h1 : j < 1 := Nat.lt_of_lt_of_le hj (Nat.min_le_left 1 n)
      have h2 : j = 0 := by omega
      rw [h2]; rfl) (c := Nat.min 1 n) (sl := 1) (by simp)
    rw [Nat.sub_zero, Nat.zero_add] at hcp
    obtain ⟨k0, hk0⟩ : ∃ k0, k0 = Nat.min 1 n := ⟨_, rfl⟩
    rw [← hk0] at hcp
    have h1 : k0 ≤ n := by rw [hk0]; exact Nat.min_le_right 1 n
    have h2 : 0 < n → 0 < k0 := fun h => by rw [hk0]; simp [Nat.min_def]; split <;> omega
    clear hk0
    go_wp2_with fail
    go_meet
    exact ⟨k0, rfl, h1, h2, setRow_rowI HG0.out, setRow_below HB0.out (Nat.le_refl _)⟩
  case rest =>
    clear HG0 HR1 HB0
    obtain ⟨k0, rfl, hk0, hp0, hR0, hb0⟩ := hcut
    go_wp2_with fail
    go_loopw [8] (fun a wc => ∃ k : Nat, a = .int .i64 (k : Int) ∧ k ≤ n ∧ (0 < n → 0 < k) ∧ Hid (RowI wc 3 w2.heap.size (repK x n k)) ∧ Hid (Below w2.heap.size w2 wc)) (fun a _ => n - (intOf a).toNat)
    case atStart => exact ⟨k0, rfl, hk0, hp0, hR0, hb0⟩
    case round =>
      clear hR0 hb0
      obtain ⟨k, rfl, hk, hp, hR, hb⟩ := hrel
      by_cases hlt : k < n
      · have hcp := fun q : Nat => rep_copy (w := wr.drewN q) x (k := k) (c := Nat.min k (n - k)) (sl := k) (sc := n) (dc := n - k) hR.out (by show k + min k (n - k) ≤ n; omega) hR.out (fun j hj => by
          have h1 := Nat.lt_of_lt_of_le hj (Nat.min_le_left k (n - k))
          simp [repK, List.getElem?_append_left, h1]) rfl
        obtain ⟨c, hc⟩ : ∃ c, c = Nat.min k (n - k) := ⟨_, rfl⟩
        rw [← hc] at hcp
        have hc' : c = min k (n - k) := hc
        have hc1 : k + c ≤ n := by omega
        have hc2 : 0 < c := by omega
        have i1 : (0 : Int) ≤ (k : Int) := by omega
        have i2 : (k : Int) < (n : Int) := by omega
        have i3 : (k : Int) ≤ (n : Int) := by omega
        have i4 : IntKind.i64.wrap ((k : Int) + (c : Int)) = ((k + c : Nat) : Int) := by rw [IntKind.wrap_i64]; omega
        have i5 : ((n : Int) - (k : Int)).toNat = n - k := by omega
        clear hc hc'
        go_wp2_with fail
        (refine wp_region_rws [1, 0, 0, 0, 0, 0, 0, 2, 2, 2] (by kernel_rfl) (by kernel_rfl) (by kernel_rfl) (fun _ _ d _ _ h => by cases d <;> exact h) ?_
         simp only [pickL, reduceIte, Nat.reduceEqDiff]
         repeat (go_big_quiet_step (fail))
         refine wpQuiet_nil ?_
         repeat (refine wpW_step ?_ ?_ ?_; rotate_left; focus (intro w1; go_simp; first | done | with_reducible rfl))
         refine wpW_nil ?_
         intro _ hw'
         obtain ⟨nq, hw''⟩ := hw'
         subst hw'')
        go_wp2_with fail
        exact ⟨⟨k + c, by go_num, hc1, fun _ => by omega, setRow_rowI (w := wr.drewN nq) hR.out, setRow_below (below_drewN0 hb.out nq) (Nat.le_refl _)⟩, by simp [intOf]; omega⟩
      · obtain rfl : k = n := by omega
        have hR' := hR.out
        rw [repK_all] at hR'
        have HR' := Lib.hid hR'
        clear hR hR'
        go_wp2_with fail
        go_ret
        exact ⟨_, rfl, Nat.le_refl _, HR'.out, hb.out⟩
end Go.Proofs.Ytgddfmfiiodgbaa
