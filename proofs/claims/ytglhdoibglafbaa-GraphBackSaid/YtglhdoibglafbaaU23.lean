/- Sorting a row of edges by the method value: the row comes back sorted. -/
import Derived.Test.YtglhdoibglafbaaU13
import Derived.Test.YtglhdoibglafbaaU19
import Derived.Test.YtglhdoibglafbaaU20
import Derived.Sort.LotD1
import Derived.Test.YtglhdoibglafbaaU14
import Derived.Test.YtglhdoibglafbaaU05
import Derived.Maps.Views
import Derived.Test.YtglhdoibglafbaaU16
namespace Go.Proofs.Ytglhdoibglafbaa
open Go Go.RowKit Go.Shelf
set_option maxRecDepth 100000
set_option linter.unusedVariables false
set_option linter.unusedSimpArgs false

set_option maxHeartbeats 2000000 in
theorem sortf_lim (w0 W : World) (g : Nat) (T : TypeId) (rest : List Value) (d : Array PE) (c : Nat) (hS : SR w0 g T rest d W) (hm : d.size ≤ 1000000)
    (HP : ∀ (lim : Nat), lim ≤ 1000000 → Calls Try.prog 94 #[.slice (some ⟨g, 0, none⟩) d.size c, .int .i64 ((0 : Nat) : Int), .int .i64 d.size, .int .i64 lim, (Value.func (.func 68) #[.agg #[]] #[])] W fun e w' => e = .returned (.tuple #[]) ∧ ∃ d', Sort.PermIn 0 d.size d d' ∧ Sort.SortedIn ltP 0 d.size d' ∧ SR w0 g T rest d' w') :
    Calls Try.prog 67 #[.slice (some ⟨g, 0, none⟩) d.size c, (Value.func (.func 68) #[.agg #[]] #[])] W fun e w' => e = .returned (.tuple #[]) ∧ ∃ d', Sort.PermIn 0 d.size d d' ∧ Sort.SortedIn ltP 0 d.size d' ∧ SR w0 g T rest d' w' := by
  have hb : Sort.bitsLen d.size ≤ 1000000 := Nat.le_trans ((Sort.bitsLen_le_iff d.size 20).2 (by omega)) (by omega)
  have HP2 := HP _ hb
  have hL := len_any d.size (by omega)
  have w2 : IntKind.u64.wrap (d.size : Int) = (d.size : Int) := by rw [IntKind.wrap_u64]; omega
  clear HP
  go_enter Try.func67, Try.ntmps67
  go_wp2_with (first
    | (go_at_call 95; go_loud (refine (hL _).mono ?_; rintro e w1 ⟨rfl, rfl⟩))
    | (go_at_call 94; go_loud (refine HP2.mono ?_; rintro e w1 ⟨rfl, d', h1, h2, h3⟩)))
  go_end0
  exact ⟨rfl, d', h1, h2, h3⟩

/-- The whole. -/
theorem sortM_any (w0 W : World) (g : Nat) (T : TypeId) (rest : List Value) (d : Array PE) (c : Nat) (hS : SR w0 g T rest d W) (hm : d.size ≤ 1000000) (hg : g < w0.heap.size) :
    Calls Try.prog 67 #[.slice (some ⟨g, 0, none⟩) d.size c, (Value.func (.func 68) #[.agg #[]] #[])] W fun e w' => e = .returned (.tuple #[]) ∧ ∃ d', Sort.PermIn 0 d.size d d' ∧ Sort.SortedIn ltP 0 d.size d' ∧ SR w0 g T rest d' w' :=
  sortf_lim w0 W g T rest d c hS hm fun lim hlim =>
    pdq_of w0 g T rest c d.size hm hg (fun W2 d2 a l hsz hS2 hl hb hB => by
      have h1 := pins_any w0 W2 g T rest d2 c a l hS2 hl hb (by omega)
      have h2 := Sort.partialInsertionSort_holds (lt := ltP) swoE d2 a (a + l) (by omega) hb hB
      rw [hsz] at h1
      exact h1.mono fun e w' ⟨bb, h3, h4, h5⟩ => ⟨bb, _, h3, h2.1, fun hbb => h2.2 (h4.trans hbb), h5⟩) d.size W d 0 d.size lim (by omega) rfl (by omega) (by omega) hlim (.inl rfl) hS
end Go.Proofs.Ytglhdoibglafbaa

/- Sorting an own row of edges by the method value. -/
namespace Go.Proofs.Ytglhdoibglafbaa
open Go Go.RowKit Go.Shelf
set_option maxRecDepth 100000
set_option linter.unusedVariables false
set_option linter.unusedSimpArgs false

theorem len64_0 (w : World) : Calls Try.prog 116 #[.int .u64 0] w fun e w' => e = .returned (.int .i64 0) ∧ w = w' := by
  go_enter Try.func116, Try.ntmps116
  go_wp2
  go_ret
  exact ⟨by kernel_rfl, rfl⟩
theorem len_0 (w : World) : Calls Try.prog 95 #[.int .u64 0] w fun e w' => e = .returned (.int .i64 0) ∧ w = w' := by
  go_enter Try.func95, Try.ntmps95
  go_wp2_with (go_at_call 116; refine (len64_0 _).mono ?_; rintro e w1 ⟨rfl, rfl⟩)
  go_ret
  simp
theorem ins_0 (A : Option Addr) (c : Nat) (fv : Value) (w : World) : Calls Try.prog 107 #[.slice A 0 c, .int .i64 0, .int .i64 0, fv] w fun e w' => e = .returned (.tuple #[]) ∧ w = w' := by
  go_enter Try.func107, Try.ntmps107
  go_wp2
  go_rounds 1
  go_end0
  simp
theorem pdq_0 (A : Option Addr) (c : Nat) (fv : Value) (l : Int) (w : World) : Calls Try.prog 94 #[.slice A 0 c, .int .i64 0, .int .i64 0, .int .i64 l, fv] w fun e w' => e = .returned (.tuple #[]) ∧ w = w' := by
  go_enter Try.func94, Try.ntmps94
  go_wp2
  refine wp_loop_rounds 1 ?_
  rw [rounds_succ]
  go_wp2_with (go_at_call 107; refine (ins_0 A c fv _).mono ?_; rintro e w1 ⟨rfl, rfl⟩)
  (try simp only [Exit.inBlock, Exit.then])
  refine bodyPost_ret (results_none rfl _ _ _) rfl ?_
  exact ⟨rfl, rfl⟩
theorem sort_0 (A : Option Addr) (c : Nat) (fv : Value) (w : World) : Calls Try.prog 67 #[.slice A 0 c, fv] w fun e w' => e = .returned (.tuple #[]) ∧ w = w' := by
  go_enter Try.func67, Try.ntmps67
  go_wp2_with (first | (go_at_call 95; refine (len_0 _).mono ?_; rintro e w1 ⟨rfl, rfl⟩) | (go_at_call 94; refine (pdq_0 A c fv _ _).mono ?_; rintro e w1 ⟨rfl, rfl⟩))
  go_end0
  simp

/-- An own row of edges is sorted in its place; what is older than the row's base stays. -/
theorem sort_own (S : List PE) (A : Option Addr) (c base : Nat) (W : World) (ho : W.ownsRow base 28 2 (.slice A S.length c) S.length (pcells S)) (hm : S.length ≤ 1000000) (hbase : base ≤ W.heap.size) :
    Calls Try.prog 67 #[.slice A S.length c, (Value.func (.func 68) #[.agg #[]] #[])] W fun e w' => e = .returned (.tuple #[]) ∧ Below base W w' ∧
      ∃ d' : Array PE, Sort.PermIn 0 S.length S.toArray d' ∧ Sort.SortedIn ltP 0 S.length d' ∧ w'.ownsRow base 28 2 (.slice A S.length c) S.length (pcells d'.toList) := by
  by_cases h0 : S.length = 0
  · have h0' : S = [] := List.eq_nil_of_length_eq_zero h0
    subst h0'
    refine (sort_0 A c _ W).mono ?_
    rintro e w' ⟨rfl, rfl⟩
    exact ⟨rfl, Below.refl _ _, #[], ⟨rfl, fun _ _ => rfl, List.Perm.refl _⟩, by intro i j; simp, ho⟩
  · obtain ⟨g, c2, cur, hv, hg, hgl, hh, hnc, hmx, hsz, htk⟩ := own_open ho (by omega)
    simp only [Value.slice.injEq] at hv
    obtain ⟨rfl, -, rfl⟩ := hv
    have hcur : cur = pcells S ++ cur.drop (S.length * 2) := by rw [← htk, List.take_append_drop]
    have hS : SR W g 28 (cur.drop (S.length * 2)) S.toArray W := ⟨by rw [hh]; simp only []; rw [← hcur], rfl, rfl, rfl, Nat.le_refl _, fun _ _ _ => rfl⟩
    have := sortM_any W W g 28 (cur.drop (S.length * 2)) S.toArray c hS (by simpa using hm) hgl
    simp only [List.size_toArray] at this
    refine this.mono ?_
    rintro e w' ⟨rfl, d', hp, hs, hS'⟩
    obtain ⟨k1, k2, k3, k4, k5, k6⟩ := hS'
    have hd : d'.toList.length = S.length := by have := hp.1; simpa using this
    refine ⟨rfl, ⟨k2, k3, k4, k5, fun k hk => k6 k (by omega) (by omega)⟩, d', hp, hs, own_shut hg k1 hnc hmx ?_ ?_⟩
    · have h1 : (pcells d'.toList).length = S.length * 2 := by rw [pcells_length, hd]; omega
      have h2 : (pcells S).length = S.length * 2 := by rw [pcells_length]; omega
      have h3 : cur.length = (pcells S ++ cur.drop (S.length * 2)).length := by rw [← hcur]
      rw [List.length_append] at h3 ⊢
      omega
    · have h1 : (pcells d'.toList).length = S.length * 2 := by rw [pcells_length, hd]; omega
      rw [List.take_left' h1]
end Go.Proofs.Ytglhdoibglafbaa

/- A map keyed by edges that tells which edges have been seen. -/
namespace Go.Proofs.Ytglhdoibglafbaa
open Go Go.RowKit
open Go.WideMaps (KeyLaw)
open Go.Maps (Keyed)
set_option maxRecDepth 100000
set_option linter.unusedVariables false
set_option linter.unusedSimpArgs false

/-- The key of an edge. -/
def ekey (e : Int × Int) : Lit := .string (keyBytes [.int .i64 e.1, .int .i64 e.2])

theorem ekey_inj {e f : Int × Int} (h1 : (Lit.int .i64 e.1).wf = true) (h2 : (Lit.int .i64 e.2).wf = true) (h3 : (Lit.int .i64 f.1).wf = true) (h4 : (Lit.int .i64 f.2).wf = true) (h : ekey e = ekey f) : e = f := by
  unfold ekey at h
  injection h with h
  have := keyBytes_inj (l := [.int .i64 e.1, .int .i64 e.2]) (l' := [.int .i64 f.1, .int .i64 f.2]) (by simp [Alike, Lit.sameKind]) (by simp [Lit.keyWf, h1, h2]) (by simp [Lit.keyWf, h3, h4]) h
  simp at this
  exact Prod.ext this.1 this.2

/-- Block b holds a map that tells which edges lie in S. -/
def MapE (w : World) (b : Nat) (S : List (Int × Int)) : Prop :=
  ∃ D : DataW Nat, w.ownsMap Try.prog 28 (plainElem Try.prog 4) b S.length D ∧ Maps.IsMap D ∧
    ∀ e : Int × Int, (Lit.int .i64 e.1).wf = true → (Lit.int .i64 e.2).wf = true → D.atKey (ekey e) (.lit (.bool false)) = .lit (.bool (decide (e ∈ S)))

theorem mapE_made (w : World) : MapE (w.alloc (.map #[] 0)) w.heap.size [] :=
  ⟨.map [], World.ownsMap_made (H := Nat) w Try.prog _ _, by simp [Maps.IsMap], fun e _ _ => by simp [DataW.atKey]⟩

theorem MapE.far {w w' : World} {b : Nat} {S : List (Int × Int)} (h : MapE w b S) (hk : w'.heap[b]? = w.heap[b]?) : MapE w' b S := by
  obtain ⟨D, h1, h2, h3⟩ := h
  exact ⟨D, owns_far h1 hk, h2, h3⟩
theorem MapE.lt {w : World} {b : Nat} {S : List (Int × Int)} (h : MapE w b S) : b < w.heap.size := by
  obtain ⟨D, h1, _⟩ := h
  exact h1.lt

theorem wpList_lookE (w : World) {ops : Array Oper} {rest : List Oper} {o : Oper} {a : Act} {Q : Exit → Act → World → Prop}
    (hg : o.guard = none) (m x : Operand) (hop : o.op = Op.lookup 95 m x false) (b : Nat) (S : List (Int × Int))
    (hm : a.eval m = .map (some b)) (hown : MapE w b S) (e : Int × Int) (h1 : (Lit.int .i64 e.1).wf = true) (h2 : (Lit.int .i64 e.2).wf = true) (hx : a.eval x = .agg #[.int .i64 e.1, .int .i64 e.2])
    (hK : wpList Try.prog ops Q rest (a.put o.dst (.bool (decide (e ∈ S)))) w) :
    wpList Try.prog ops Q (o :: rest) a w := by
  obtain ⟨D, ho, hM, hat⟩ := hown
  refine wpList_plain hg fun K' hK' => ?_
  obtain ⟨v, ps, hrun, hv⟩ := ho.lookup keyedE Try.underlying95 (z := .bool false) (by kernel_rfl) (zd := .lit (.bool false)) (zp := []) (plainElem_bool Try.underlying4 false) (keyE e.1 e.2 h1 h2)
  have h3 := hat e h1 h2
  unfold ekey at h3
  rw [h3] at hv
  obtain rfl := bool_inv (ps := ps) (x := decide (e ∈ S)) hv
  unfold Oper.wp
  simp [execOp, hop, hm, hx, hrun, Result.andThen]
  exact hK' _ _ hK

theorem wpList_putE (w : World) {ops : Array Oper} {rest : List Oper} {o : Oper} {a : Act} {Q : Exit → Act → World → Prop}
    (hg : o.guard = none) (m x v : Operand) (hop : o.op = Op.mapUpdate 95 m x v) (b : Nat) (S : List (Int × Int))
    (hm : a.eval m = .map (some b)) (hown : MapE w b S) (hn : S.length < maxLen) (e : Int × Int) (h1 : (Lit.int .i64 e.1).wf = true) (h2 : (Lit.int .i64 e.2).wf = true) (hx : a.eval x = .agg #[.int .i64 e.1, .int .i64 e.2]) (hv : a.eval v = .bool true)
    (hK : ∀ w', MapE w' b (e :: S) → w.grownBy w' (some b) → wpList Try.prog ops Q rest (a.put o.dst undef) w') :
    wpList Try.prog ops Q (o :: rest) a w := by
  obtain ⟨D, ho, hM, hat⟩ := hown
  refine wpList_mapUpdate_own _ hg m x v 95 hop 28 4 keyedE Try.underlying95 (plainElem Try.prog 4) b _ D hm ho hn _ _ _ hx hv (keyE e.1 e.2 h1 h2) (.lit (.bool true)) [] (plainElem_bool Try.underlying4 true) ?_
  intro w' ho' hgr
  refine hK w' ⟨_, ho', ?_, fun f f1 f2 => ?_⟩ hgr
  · obtain ⟨es, rfl⟩ := hM
    exact ⟨_, rfl⟩
  · by_cases hfe : f = e
    · subst hfe
      rw [show Lit.string (keyBytes [.int .i64 f.1, .int .i64 f.2]) = ekey f from rfl, Maps.atKey_put_same hM (by simp [ekey, WideAt.IsKeyLit])]
      simp
    · rw [Maps.atKey_put_other (k' := ekey f) (k := .string (keyBytes [.int .i64 e.1, .int .i64 e.2])) (fun h => hfe (ekey_inj f1 f2 h1 h2 h)), hat f f1 f2]
      simp [hfe]
end Go.Proofs.Ytglhdoibglafbaa

/- A block of a walk's own that keeps a graph (or an effort) while calls are made. -/
namespace Go.Proofs.Ytglhdoibglafbaa
open Go Go.RowKit
set_option maxRecDepth 100000
set_option linter.unusedVariables false
set_option linter.unusedSimpArgs false

/-- A block b, younger than w, holds two cells. -/
structure Box2 (w : World) (b : Nat) (x y : Value) (T : TypeId) (wc : World) : Prop where
  blk : wc.heap[b]? = some (.cells #[x, y] T (0, 0))
  below : Below w.heap.size w wc
theorem Box2.lt {w wc : World} {b : Nat} {x y : Value} {T : TypeId} (h : Box2 w b x y T wc) : b < wc.heap.size := heap_lt0 h.blk
theorem Box2.go {w wc wd : World} {b : Nat} {x y : Value} {T : TypeId} (h : Box2 w b x y T wc) (hb : Below wc.heap.size wc wd) : Box2 w b x y T wd := ⟨(hb.block b h.lt).trans h.blk, h.below.trans (hb.mono h.below.size)⟩
theorem Box2.old {w wc : World} {b : Nat} {x y : Value} {T : TypeId} (h : Box2 w b x y T wc) (o : Obj) : Box2 w b x y T (wc.alloc o) := h.go ((Below.refl _ _).alloc (Nat.le_refl _) o)
theorem Box2.drewN {w wc : World} {b : Nat} {x y : Value} {T : TypeId} (h : Box2 w b x y T wc) (q : Nat) : Box2 w b x y T (wc.drewN q) := h.go (below_drewN0 (Below.refl _ _) q)
theorem Box2.c0 {w wc : World} {b : Nat} {x y : Value} {T : TypeId} (h : Box2 w b x y T wc) : wc.cell? ⟨b, 0, none⟩ = some x := blkc0 h.blk 0 _ rfl
theorem Box2.c1 {w wc : World} {b : Nat} {x y : Value} {T : TypeId} (h : Box2 w b x y T wc) : wc.cell? ⟨b, 1, none⟩ = some y := blkc0 h.blk 1 _ rfl
theorem Box2.f0 {w wc : World} {b : Nat} {x y : Value} {T : TypeId} (h : Box2 w b x y T wc) (i : Nat) : wc.frozen? ⟨b, i, none⟩ = false := blkf0 h.blk i
theorem Box2.new {w wc : World} (h : Below w.heap.size w wc) (x y : Value) (T : TypeId) : Box2 w wc.heap.size x y T (wc.alloc (.cells #[x, y] T)) := ⟨heap_alloc_new _ _, h.alloc h.size _⟩
theorem Box2.set {w wc : World} {b : Nat} {x y : Value} {T : TypeId} (h : Box2 w b x y T wc) (hb : w.heap.size ≤ b) (x' y' : Value) : Box2 w b x' y' T ((wc.setCell ⟨b, 0, none⟩ x').setCell ⟨b, 1, none⟩ y') :=
  ⟨heap_set2 h.blk x' y', (h.below.setCell (p := ⟨b, 0, none⟩) hb _).setCell (p := ⟨b, 1, none⟩) hb _⟩
theorem Box2.far {w wc : World} {b : Nat} {x y : Value} {T : TypeId} (h : Box2 w b x y T wc) {b' : Nat} (hne : b ≠ b') (hb : w.heap.size ≤ b') (x' y' : Value) : Box2 w b x y T ((wc.setCell ⟨b', 0, none⟩ x').setCell ⟨b', 1, none⟩ y') :=
  ⟨heap_far (heap_far h.blk hne _) hne _, (h.below.setCell (p := ⟨b', 0, none⟩) hb _).setCell (p := ⟨b', 1, none⟩) hb _⟩
end Go.Proofs.Ytglhdoibglafbaa

/- Walk of the reference's Make: the edges put one by one, or what is wrong first. -/
namespace Go.Proofs.Ytglhdoibglafbaa
open Go Go.RowKit
set_option maxRecDepth 100000
set_option linter.unusedVariables false
set_option linter.unusedSimpArgs false

def makeF (n : Int) : List (Int × Int) → List (Int × Int) → Int × List (Int × Int)
  | es, [] => (0, es)
  | es, (a, b) :: l => if addErr n es a b = 0 then makeF n (putE es (min a b, max a b)) l else (addErr n es a b, [])

def RMakePost (n : Int) (l : List (Int × Int)) (w : World) (e : Ending) (w' : World) : Prop :=
  ∃ (N' : Int) (A' : Option Addr) (l' c' : Nat) (err : Int), e = .returned (.tuple #[.agg #[.int .i64 N', .slice A' l' c'], .int .i64 err]) ∧ Below w.heap.size w w' ∧ err = (makeF n [] l).1 ∧
    ((err ≠ 0 ∧ N' = 0 ∧ A' = none ∧ l' = 0 ∧ c' = 0) ∨ (err = 0 ∧ N' = n ∧ l' = (makeF n [] l).2.length ∧ l' ≤ c' ∧ w'.ownsRow w.heap.size 28 2 (.slice A' l' c') l' (pcells (makeF n [] l).2)))

set_option maxHeartbeats 4000000 in
theorem rmake_any (n : Int) (l : List (Int × Int)) (Al : Option Addr) (cl : Nat) (w : World) (hrl : Reads w Al (pcells l)) (hcl : l.length ≤ cl) (hn0 : 0 ≤ n) (hn1 : n ≤ 4096) (hll : l.length ≤ 60000) :
    Calls Try.prog 28 #[.int .i64 n, .slice Al l.length cl] w (RMakePost n l w) := by
  have HRL := Lib.hid hrl
  have i1 : ¬ n < 0 := by omega
  have i2 : decide (n < 0) = false := decide_eq_false i1
  have i3 : ¬ (4096 : Int) < n := by omega
  have i4 : decide ((4096 : Int) < n) = false := decide_eq_false i3
  clear hrl
  go_enter Try.func28, Try.ntmps28
  go_upto_region 5 with fail
  obtain ⟨W0, hW0⟩ : ∃ W0, W0 = (w.alloc (Obj.cells #[Value.int IntKind.i64 0, Value.slice none 0 0] 25)).alloc (Obj.cells #[Value.int IntKind.i64 n, Value.slice none 0 0] 25) := ⟨_, rfl⟩
  rw [← hW0]
  have hs0 : W0.heap.size = w.heap.size + 2 := by rw [hW0]; simp
  have hX8 : Box2 w (w.heap.size + 1) (.int .i64 n) (.slice none 0 0) 25 W0 := by
    rw [hW0]
    have := Box2.new (w := w) (wc := w.alloc (Obj.cells #[Value.int IntKind.i64 0, Value.slice none 0 0] 25)) ((Below.refl _ _).alloc (Nat.le_refl _) _) (.int .i64 n) (.slice none 0 0) 25
    rw [World.size_alloc] at this
    exact this
  have hX6 : Box2 w w.heap.size (.int .i64 0) (.slice none 0 0) 25 W0 := by
    rw [hW0]
    exact (Box2.new (Below.refl _ _) _ _ _).old _
  clear hW0
  have HX8 := Lib.hid hX8
  have HX6 := Lib.hid hX6
  have HS0 := Lib.hid (show w.heap.size + 2 ≤ W0.heap.size by omega)
  clear hX8 hX6 hs0
  go_loopw [7] (fun i wq => ∃ (j : Nat) (es : List (Int × Int)) (A : Option Addr) (c : Nat), i = .int .i64 j ∧ j ≤ l.length ∧ Hid (RightP n es ∧ es.length ≤ j ∧ makeF n [] l = makeF n es (l.drop j)) ∧ es.length ≤ c ∧
    Hid (Box2 w w.heap.size (.int .i64 0) (.slice none 0 0) 25 wq) ∧ Hid (Box2 w (w.heap.size + 1) (.int .i64 n) (.slice A es.length c) 25 wq) ∧
    Hid (wq.ownsRow (w.heap.size + 2) 28 2 (.slice A es.length c) es.length (pcells es)) ∧ Hid (w.heap.size + 2 ≤ wq.heap.size)) (fun i _ => l.length + 1 - (intOf i).toNat)
  case atStart => exact ⟨0, [], none, 0, rfl, Nat.zero_le _, ⟨⟨by omega, by omega, by simp, by simp, by simp⟩, by simp, rfl⟩, by simp, HX6, HX8, own_nil0 _ _ _ _, HS0⟩
  case round =>
    clear HX6 HX8 HS0
    obtain ⟨j, es, A, c, rfl, hj, hes, hc, hX6, hX8, how, hsz2⟩ := hrel
    have c0 := hX8.out.c0
    have c1' := hX8.out.c1
    by_cases hlt : j < l.length
    · obtain ⟨⟨x, y⟩, hxy⟩ : ∃ e, l[j]? = some e := ⟨l[j], by simp [hlt]⟩
      obtain ⟨eb, eo, hA1, hebl, cx, cy⟩ := (HRL.out.below hX8.out.below).pair' j _ hxy
      simp only at cx cy
      rw [hA1]
      have HA1 := Lib.hid hA1
      have HXY := Lib.hid hxy
      have k1 : (j : Int) < (l.length : Int) := by omega
      have k2 : (0 : Int) ≤ (j : Int) := by omega
      clear hA1 hxy
      go_upto_region 7 with fail
      go_cut [8, 9] (fun a b wc => ∃ (b12 : Nat) (n' : Int) (A' : Option Addr) (l' c' : Nat) (err : Int), a = .pointer (some ⟨b12, 0, none⟩) ∧ b = .int .i64 err ∧ Hid (wc.heap[b12]? = some (.cells #[.int .i64 n', .slice A' l' c'] 25 (0, 0))) ∧ Hid (Below wr.heap.size wr wc) ∧ Hid (wr.heap.size ≤ b12) ∧
        Hid (err = addErr n es x y) ∧ Hid (err = 0 → n' = n ∧ l' = es.length + 1 ∧ l' ≤ c' ∧ wc.ownsRow wr.heap.size 28 2 (.slice A' l' c') l' (pcells (putE es (min x y, max x y)))))
      case first =>
        have HS : Hid (∀ w', Below wr.heap.size wr w' → w'.cell? ⟨w.heap.size + 1, 0, none⟩ = some (.int .i64 n) ∧ w'.cell? ⟨w.heap.size + 1, 1, none⟩ = some (.slice A es.length c) ∧ w'.cell? ⟨eb, eo + j * 2, none⟩ = some (.int .i64 x) ∧ w'.cell? ⟨eb, eo + j * 2 + 1, none⟩ = some (.int .i64 y)) :=
          fun w' h' => ⟨(hX8.out.go h').c0, (hX8.out.go h').c1, (h'.cell (p := ⟨eb, _, none⟩) hebl).trans cx, (h'.cell (p := ⟨eb, _, none⟩) hebl).trans cy⟩
        have hrE : Hid (∀ w', Below wr.heap.size wr w' → Reads w' A (pcells es)) := fun w' h' => (own_reads1 how.out).1.below h'
        have hel : es.length ≤ 4611686018427387903 := by have := hes.out.1.len; omega
        have HAD := fun (W : World) (h : Reads W A (pcells es)) => addAny n x y es A c W h hc hel
        go_region_held3 (fun w' => w'.cell? ⟨w.heap.size + 1, 0, none⟩ = some (.int .i64 n) ∧ w'.cell? ⟨w.heap.size + 1, 1, none⟩ = some (.slice A es.length c) ∧ w'.cell? ⟨eb, eo + j * 2, none⟩ = some (.int .i64 x) ∧ w'.cell? ⟨eb, eo + j * 2 + 1, none⟩ = some (.int .i64 y))
          (first | exact HS.out _ hb1 | (refine HS.out _ ?_; (repeat (first | with_reducible exact Below.refl _ _ | with_reducible assumption | with_reducible refine below_drewN0 ?_ _ | with_reducible refine Below.drew ?_ | with_reducible refine Below.alloc ?_ ?_ _ | with_reducible refine Below.setCell ?_ ?_ _ | go_size | exact Below.size (by assumption))); done))
          (first | (go_at_call 58; refine (HAD _ (hrE.out _ ?_)).mono ?_; (repeat (first | with_reducible exact Below.refl _ _ | with_reducible assumption | with_reducible refine below_drewN0 ?_ _ | with_reducible refine Below.drew ?_ | with_reducible refine Below.alloc ?_ ?_ _ | with_reducible refine Below.setCell ?_ ?_ _ | go_size | exact Below.size (by assumption))); rintro e w1 ⟨n', A', l', c'', err, rfl, hb1', hE1⟩; have hb1 : Below wr.heap.size wr w1 := Below.trans (by (repeat (first | with_reducible exact Below.refl _ _ | with_reducible assumption | with_reducible refine below_drewN0 ?_ _ | with_reducible refine Below.drew ?_ | with_reducible refine Below.alloc ?_ ?_ _ | with_reducible refine Below.setCell ?_ ?_ _ | go_size | exact Below.size (by assumption)))) (hb1'.mono (by go_size)); first | (have hz := blk2 ((hb1'.block wr.heap.size (by simp)).trans (heap_alloc_new _ _)); obtain ⟨y0, y1, y2, y3, y4⟩ := hz) | skip))
        · go_wp2_with fail
          go_meet
          exact ⟨w1.heap.size, n', A', l', c'', err, rfl, rfl, heap_alloc_new _ _, hb1.alloc hb1.size _, hb1.size, hE1.out.1, fun h => by
            obtain ⟨h1, h2, h3, h4⟩ := hE1.out.2 h
            exact ⟨h1, h2, h3, own_cast (own_below0 h4 ((Below.refl _ _).alloc (Nat.le_refl _) _)) (Nat.le_refl _) rfl rfl⟩⟩
        · have hz := (hb1'.block wr.heap.size (by simp)).trans (heap_alloc_new _ _)
          have HZ := Lib.hid hz
          clear hz
          go_wp2_with fail
          go_meet
          exact ⟨wr.heap.size, n', A', l', c'', err, rfl, rfl, heap_set2 HZ.out _ _, (hb1.setCell (p := ⟨_, 0, none⟩) (Nat.le_refl _) _).setCell (p := ⟨_, 1, none⟩) (Nat.le_refl _) _, Nat.le_refl _, hE1.out.1, fun h => by
            obtain ⟨h1, h2, h3, h4⟩ := hE1.out.2 h
            exact ⟨h1, h2, h3, own_cast (own_set (a := ⟨wr.heap.size, 1, none⟩) (own_set (a := ⟨wr.heap.size, 0, none⟩) h4 (by simp) _) (by simp) _) (by simp) rfl rfl⟩⟩
      case rest =>
        obtain ⟨b12, n', A', l', c', err, rfl, rfl, h12, hbc, hb12, herr, hgo⟩ := hcut
        have hX6' := hX6.out.go hbc.out
        have hX8' := hX8.out.go hbc.out
        clear c0 c1' hX6 hX8
        have d0 := blkc0 h12.out 0 _ rfl
        have d1 := blkc0 h12.out 1 _ rfl
        have g0 := hX8'.c0
        have g1 := hX8'.c1
        have gf0 := hX8'.f0 0
        have gf1 := hX8'.f0 1
        have HSZc := Lib.hid (show w.heap.size + 2 ≤ wc.heap.size by have := hbc.out.size; have := hsz2.out; omega)
        have hst : l.drop j = (x, y) :: l.drop (j + 1) := by
          have hj2 : j < l.length := hlt
          rw [List.drop_eq_getElem_cons hj2]
          congr 1
          have := HXY.out
          rw [List.getElem?_eq_getElem hj2] at this
          simpa using this
        have HST := Lib.hid hst
        have HX6 := Lib.hid hX6'
        have HX8 := Lib.hid hX8'
        clear hst
        by_cases he : err = 0
        · subst he
          obtain ⟨h1, h2, h3, h4⟩ := hgo.out rfl
          subst h1 h2
          have hz := addErr_zero herr.out.symm
          have HZ := Lib.hid hz
          have H4 := Lib.hid h4
          clear hz h4 how cx cy hX6' hX8'
          have HEQ : Hid (makeF n' [] l = makeF n' (putE es (min x y, max x y)) (l.drop (j + 1))) := by
            refine Lib.hid (hes.out.2.2.trans ?_)
            rw [HST.out, makeF, if_pos herr.out.symm]
          go_wp2_with fail
          refine ⟨⟨j + 1, putE es (min x y, max x y), A', c', by simp, by omega, Lib.hid ⟨HZ.out.2.1, by rw [putE_length]; have := hes.out.2.1; omega, HEQ.out⟩, by rw [putE_length]; exact h3, ?_, ?_, ?_, ?_⟩, by simp only [intOf]; omega⟩
          · exact HX6.out.far (by omega) (by omega) _ _
          · rw [putE_length]; exact HX8.out.set (by omega) _ _
          · have hwr := hsz2.out
            have h5 := own_set (a := ⟨w.heap.size + 1, 1, none⟩) (own_set (a := ⟨w.heap.size + 1, 0, none⟩) H4.out (by simp only; omega) (.int .i64 n')) (by simp only; omega) (.slice A' (es.length + 1) c')
            have h6 := own_cast h5 hwr rfl rfl
            rw [putE_length]
            exact h6
          · refine Lib.hid ?_
            have := HSZc.out
            simpa using this
        · have he' : (err == 0) = false := by rw [beq_eq_false_iff_ne]; exact he
          have HEQ : Hid (makeF n [] l = (err, [])) := by
            refine Lib.hid (hes.out.2.2.trans ?_)
            rw [HST.out, makeF, if_neg (by rw [← herr.out]; exact he), ← herr.out]
          have HBB : Hid (Below w.heap.size w wc) := HX6.out.below
          have e0 := HX6.out.c0
          have e1 := HX6.out.c1
          have ef0 := HX6.out.f0 0
          have ef1 := HX6.out.f0 1
          go_wp2_with fail
          have hblk := heap_set2 HX6.out.blk (.int .i64 0) (.slice none 0 0)
          have z0 := blkc0 hblk 0 _ rfl
          have z1 := blkc0 hblk 1 _ rfl

          refine bodyPost_ret (v := .tuple #[.agg #[.int .i64 0, .slice none 0 0], .int .i64 err]) (by simp [results, Try.results28, go_sem, z0, z1]) rfl ?_
          refine ⟨0, none, 0, 0, err, rfl, (HBB.out.setCell (p := ⟨_, 0, none⟩) (Nat.le_refl _) _).setCell (p := ⟨_, 1, none⟩) (Nat.le_refl _) _, by rw [HEQ.out], .inl ⟨he, rfl, rfl, rfl, rfl⟩⟩
    · have HFIN : Hid (makeF n [] l = (0, es)) := by
        refine Lib.hid (hes.out.2.2.trans ?_)
        rw [List.drop_eq_nil_of_le (by omega), makeF]
      have k3 : ¬ (j : Int) < (l.length : Int) := by omega
      have HBB : Hid (Below w.heap.size w wr) := hX8.out.below
      have g0 := hX8.out.c0
      have g1 := hX8.out.c1
      have e0 := hX6.out.c0
      have e1 := hX6.out.c1
      have ef0 := hX6.out.f0 0
      have ef1 := hX6.out.f0 1
      have HX6' := Lib.hid hX6.out
      go_wp2_with fail
      have hblk := heap_set2 HX6'.out.blk (.int .i64 n) (.slice A es.length c)
      have z0 := blkc0 hblk 0 _ rfl
      have z1 := blkc0 hblk 1 _ rfl
      refine bodyPost_ret (v := .tuple #[.agg #[.int .i64 n, .slice A es.length c], .int .i64 0]) (by simp [results, Try.results28, go_sem, z0, z1]) rfl ?_
      have hF : makeF n [] l = (0, es) := HFIN.out
      refine ⟨n, A, es.length, c, 0, rfl, (HBB.out.setCell (p := ⟨_, 0, none⟩) (Nat.le_refl _) _).setCell (p := ⟨_, 1, none⟩) (Nat.le_refl _) _, by rw [hF], .inr ⟨rfl, rfl, by rw [hF], hc, ?_⟩⟩
      rw [hF]
      have h5 := own_set (a := ⟨w.heap.size, 1, none⟩) (own_set (a := ⟨w.heap.size, 0, none⟩) how.out (by simp only; omega) (.int .i64 n)) (by simp only; omega) (.slice A es.length c)
      exact own_cast h5 (by omega) rfl rfl
end Go.Proofs.Ytglhdoibglafbaa
