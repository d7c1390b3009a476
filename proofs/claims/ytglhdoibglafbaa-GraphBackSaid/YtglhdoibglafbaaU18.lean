/- Walks of graph.Near, graph.Degree. -/
import Derived.Test.YtglhdoibglafbaaU17
import Derived.Test.YtglhdoibglafbaaU15
namespace Go.Proofs.Ytglhdoibglafbaa
open Go Go.RowKit
set_option maxRecDepth 100000
set_option linter.unusedVariables false
set_option linter.unusedSimpArgs false

/-- A row of numbers, told. -/
def RowPost (l : List Int) (w : World) (e : Ending) (w' : World) : Prop :=
  ∃ (A : Option Addr) (c : Nat), e = .returned (.slice A l.length c) ∧ l.length ≤ c ∧ Reads w' A (icells l) ∧ Below w.heap.size w w'

theorem near_out (n v : Int) (es : List (Int × Int)) (A : Option Addr) (c : Nat) (w : World) (hr : Reads w A (pcells es)) (hc : es.length ≤ c) (hm : es.length ≤ 4611686018427387903) (hR : rightB n es = true) (hv : v < 0 ∨ n ≤ v) :
    Calls Try.prog 38 #[.agg #[.int .i64 n, .slice A es.length c], .int .i64 v] w fun e w' => e = .returned (.slice none 0 0) ∧ Below w.heap.size w w' := by
  have HRt := fun W hr => right_any n es A c W hr hc hm
  rw [hR] at HRt
  clear hR
  by_cases hv0 : v < 0
  · clear hv
    go_enter Try.func38, Try.ntmps38
    go_wp2_with (first
      | (go_at_call 31; refine (HRt _ (hr.below ?_)).mono ?_
         · (repeat (first | with_reducible exact Below.refl _ _ | with_reducible assumption | with_reducible refine below_drewN0 ?_ _ | with_reducible refine Below.drew ?_ | with_reducible refine Below.alloc ?_ ?_ _ | with_reducible refine Below.setCell ?_ ?_ _ | go_size | exact Below.size (by assumption)))
         rintro e w1 ⟨rfl, hb1⟩
         have hbw : Below w.heap.size w w1 := Below.trans (by (repeat (first | with_reducible exact Below.refl _ _ | with_reducible assumption | with_reducible refine below_drewN0 ?_ _ | with_reducible refine Below.drew ?_ | with_reducible refine Below.alloc ?_ ?_ _ | with_reducible refine Below.setCell ?_ ?_ _ | go_size | exact Below.size (by assumption)))) (hb1.mono (by simp))
         obtain ⟨a0, a1, a2, a3, a4⟩ := blk2 ((hb1.block w.heap.size (by simp)).trans (heap_alloc_new _ _))))
    go_ret
    exact ⟨rfl, by (repeat (first | with_reducible exact Below.refl _ _ | with_reducible assumption | with_reducible refine below_drewN0 ?_ _ | with_reducible refine Below.drew ?_ | with_reducible refine Below.alloc ?_ ?_ _ | with_reducible refine Below.setCell ?_ ?_ _ | go_size | exact Below.size (by assumption)))⟩
  · have hv1 : n ≤ v := by omega
    clear hv
    go_enter Try.func38, Try.ntmps38
    go_wp2_with (first
      | (go_at_call 31; refine (HRt _ (hr.below ?_)).mono ?_
         · (repeat (first | with_reducible exact Below.refl _ _ | with_reducible assumption | with_reducible refine below_drewN0 ?_ _ | with_reducible refine Below.drew ?_ | with_reducible refine Below.alloc ?_ ?_ _ | with_reducible refine Below.setCell ?_ ?_ _ | go_size | exact Below.size (by assumption)))
         rintro e w1 ⟨rfl, hb1⟩
         have hbw : Below w.heap.size w w1 := Below.trans (by (repeat (first | with_reducible exact Below.refl _ _ | with_reducible assumption | with_reducible refine below_drewN0 ?_ _ | with_reducible refine Below.drew ?_ | with_reducible refine Below.alloc ?_ ?_ _ | with_reducible refine Below.setCell ?_ ?_ _ | go_size | exact Below.size (by assumption)))) (hb1.mono (by simp))
         obtain ⟨a0, a1, a2, a3, a4⟩ := blk2 ((hb1.block w.heap.size (by simp)).trans (heap_alloc_new _ _))))
    go_ret
    exact ⟨rfl, by (repeat (first | with_reducible exact Below.refl _ _ | with_reducible assumption | with_reducible refine below_drewN0 ?_ _ | with_reducible refine Below.drew ?_ | with_reducible refine Below.alloc ?_ ?_ _ | with_reducible refine Below.setCell ?_ ?_ _ | go_size | exact Below.size (by assumption)))⟩

theorem near_in (n v : Nat) (es : List (Int × Int)) (A : Option Addr) (c : Nat) (w : World) (hr : Reads w A (pcells es)) (hc : es.length ≤ c) (hm : es.length ≤ 4611686018427387903) (hR : rightB n es = true) (hv : v < n) :
    Calls Try.prog 38 #[.agg #[.int .i64 (n : Int), .slice A es.length c], .int .i64 (v : Int)] w (RowPost (nearL es v) w) := by
  have HRt := fun W hr => right_any n es A c W hr hc hm
  have hP := (right_iff _ _).1 hR
  rw [hR] at HRt
  have hP0 := hP.n1
  have hP1 := hP.len
  have HL := fun W hr => lists_any n es A c W hr hc (by omega) (by omega) (fun e he => by have := hP.ok e he; omega)
  have hv0 : ¬ ((v : Int) < 0) := by omega
  have hv1 : ¬ ((n : Int) ≤ (v : Int)) := by omega
  have hv2 : (v : Int) < (n : Int) := by omega
  clear hR hP hP0 hP1
  go_enter Try.func38, Try.ntmps38
  go_wp2_with (first
    | (go_at_call 31; refine (HRt _ (hr.below ?_)).mono ?_
       · (repeat (first | with_reducible exact Below.refl _ _ | with_reducible assumption | with_reducible refine below_drewN0 ?_ _ | with_reducible refine Below.drew ?_ | with_reducible refine Below.alloc ?_ ?_ _ | with_reducible refine Below.setCell ?_ ?_ _ | go_size | exact Below.size (by assumption)))
       rintro e w1 ⟨rfl, hb1⟩
       have hbw : Below w.heap.size w w1 := Below.trans (by (repeat (first | with_reducible exact Below.refl _ _ | with_reducible assumption | with_reducible refine below_drewN0 ?_ _ | with_reducible refine Below.drew ?_ | with_reducible refine Below.alloc ?_ ?_ _ | with_reducible refine Below.setCell ?_ ?_ _ | go_size | exact Below.size (by assumption)))) (hb1.mono (by simp))
       obtain ⟨a0, a1, a2, a3, a4⟩ := blk2 ((hb1.block w.heap.size (by simp)).trans (heap_alloc_new _ _)))
    | (go_at_call 74; refine (HL _ (hr.below ?_)).mono ?_
       · (repeat (first | with_reducible exact Below.refl _ _ | with_reducible assumption | with_reducible refine below_drewN0 ?_ _ | with_reducible refine Below.drew ?_ | with_reducible refine Below.alloc ?_ ?_ _ | with_reducible refine Below.setCell ?_ ?_ _ | go_size | exact Below.size (by assumption)))
       rintro e w2 ⟨B, vs, rfl, hB, hRow, hb2⟩
       obtain ⟨u, A2, c2, hu, rfl, hc2, hrd, ho, hcell⟩ := hRow.get v _ (rowsF_get _ _ _ hv)))
  go_ret
  exact ⟨A2, c2, rfl, hc2, hrd, hbw.trans (hb2.mono hbw.size)⟩

theorem near_any (n v : Int) (es : List (Int × Int)) (A : Option Addr) (c : Nat) (w : World) (hr : Reads w A (pcells es)) (hc : es.length ≤ c) (hm : es.length ≤ 4611686018427387903) :
    Calls Try.prog 38 #[.agg #[.int .i64 n, .slice A es.length c], .int .i64 v] w (RowPost (nearB n es v) w) := by
  have hnil : Calls Try.prog 38 #[.agg #[.int .i64 n, .slice A es.length c], .int .i64 v] w (fun e w' => e = .returned (.slice none 0 0) ∧ Below w.heap.size w w') → nearB n es v = [] →
      Calls Try.prog 38 #[.agg #[.int .i64 n, .slice A es.length c], .int .i64 v] w (RowPost (nearB n es v) w) := fun h he => h.mono fun e w' ⟨h1, h2⟩ => by
    rw [he]; exact ⟨none, 0, h1, Nat.le_refl _, .inl rfl, h2⟩
  cases hR : rightB n es with
  | false => exact hnil (near_bad n v es A c w hr hc hm hR) (by unfold nearB; rw [if_neg (by simp [hR])])
  | true =>
    by_cases hv : 0 ≤ v ∧ v < n
    · obtain ⟨vn, rfl⟩ : ∃ m : Nat, v = m := ⟨v.toNat, by omega⟩
      obtain ⟨nn, rfl⟩ : ∃ m : Nat, n = m := ⟨n.toNat, by omega⟩
      have := near_in nn vn es A c w hr hc hm hR (by omega)
      rwa [nearB_right hR]
    · exact hnil (near_out n v es A c w hr hc hm hR (by omega)) (by unfold nearB; rw [if_neg (fun h => hv h.2)])

theorem degree_any (n v : Int) (es : List (Int × Int)) (A : Option Addr) (c : Nat) (w : World) (hr : Reads w A (pcells es)) (hc : es.length ≤ c) (hm : es.length ≤ 4611686018427387903) :
    Calls Try.prog 40 #[.agg #[.int .i64 n, .slice A es.length c], .int .i64 v] w fun e w' => e = .returned (.int .i64 ((nearB n es v).length : Int)) ∧ Below w.heap.size w w' := by
  have HN := fun W hr => near_any n v es A c W hr hc hm
  generalize nearB n es v = l at *
  go_enter Try.func40, Try.ntmps40
  go_wp2_with (go_at_call 38; refine (HN _ (hr.below ?_)).mono ?_; (repeat (first | with_reducible exact Below.refl _ _ | with_reducible assumption | with_reducible refine below_drewN0 ?_ _ | with_reducible refine Below.drew ?_ | with_reducible refine Below.alloc ?_ ?_ _ | with_reducible refine Below.setCell ?_ ?_ _ | go_size | exact Below.size (by assumption))); rintro e w1 ⟨A1, c1, rfl, hc1, hrd, hb1⟩)
  go_ret
  exact ⟨rfl, Below.trans (by (repeat (first | with_reducible exact Below.refl _ _ | with_reducible assumption | with_reducible refine below_drewN0 ?_ _ | with_reducible refine Below.drew ?_ | with_reducible refine Below.alloc ?_ ?_ _ | with_reducible refine Below.setCell ?_ ?_ _ | go_size | exact Below.size (by assumption)))) (hb1.mono (by simp))⟩

end Go.Proofs.Ytglhdoibglafbaa

/- The walk of Near, the document's answer. -/
namespace Go.Proofs.Ytglhdoibglafbaa
open Go Go.RowKit
set_option maxRecDepth 100000
set_option linter.unusedVariables false
set_option linter.unusedSimpArgs false

theorem own_apart {w w1 : World} {base e size n : Nat} {v : Value} {xs : List Value} {row : Option Nat} (h : w.ownsRow base e size v n xs) (hg : w.grownBy w1 row) (hne : ∀ g, v.ownBlock = some g → row ≠ some g) : w1.ownsRow base e size v n xs :=
  own_far h fun g hg' => hg.block g (own_lt0 h g hg').2 (fun hx => hne g hg' hx.symm)

/-- Two rows of one's own, one of which has grown. -/
theorem two_rows {w1 wr w5 : World} {B e e' s s' n5 n6 : Nat} {v5 v6 v5' : Value} {xs5 xs6 : List Value} (hb : Below B w1 wr) (hB : B ≤ wr.heap.size) (HO5 : wr.ownsRow B e s v5 n5 xs5) (HO6 : wr.ownsRow B e' s' v6 n6 xs6)
    (hne : ∀ g, v5.ownBlock = some g → v6.ownBlock ≠ some g) (o : Obj) (hg5 : (wr.alloc o).grownBy w5 v5.ownBlock) (hat5 : v5'.ownBlock = v5.ownBlock ∨ v5'.ownBlock = some (wr.alloc o).heap.size) :
    Below B w1 w5 ∧ w5.ownsRow B e' s' v6 n6 xs6 ∧ (∀ g, v5'.ownBlock = some g → v6.ownBlock ≠ some g) := by
  refine ⟨below_app (hb.alloc hB o) hg5 (by simp; omega) (fun g hg => (own_lt0 HO5 g hg).1), own_apart (own_below0 HO6 (Below.alloc (Below.refl _ _) (Nat.le_refl _) o)) hg5 (fun g hg hx => hne g hx hg), fun g hg hx => ?_⟩
  rcases hat5 with h9 | h9
  · exact hne g (h9.symm.trans hg) hx
  · have h8 := (own_lt0 HO6 g hx).2
    rw [h9] at hg
    simp at hg
    omega

set_option maxHeartbeats 4000000 in
theorem refNear_ok (n v : Int) (es : List (Int × Int)) (A : Option Addr) (c : Nat) (w : World) (hr : Reads w A (pcells es)) (hc : es.length ≤ c) (hm : es.length ≤ 4611686018427387903) (hR : rightB n es = true) :
    Calls Try.prog 39 #[.agg #[.int .i64 n, .slice A es.length c], .int .i64 v] w (RowPost (nearL es v) w) := by
  have HRt := fun W hr => refRight n es A c W hr hc hm
  have hP1 := ((right_iff _ _).1 hR).len
  have HOK := Lib.hid ((right_iff _ _).1 hR).ok
  rw [hR] at HRt
  clear hR
  go_enter Try.func39, Try.ntmps39
  go_wp2_with (first
    | (go_at_call 32; refine (HRt _ (hr.below ?_)).mono ?_
       · (repeat (first | with_reducible exact Below.refl _ _ | with_reducible assumption | with_reducible refine below_drewN0 ?_ _ | with_reducible refine Below.drew ?_ | with_reducible refine Below.alloc ?_ ?_ _ | with_reducible refine Below.setCell ?_ ?_ _ | go_size | exact Below.size (by assumption)))
       rintro e w1 ⟨rfl, hb1⟩
       have hbw : Below w.heap.size w w1 := Below.trans (by (repeat (first | with_reducible exact Below.refl _ _ | with_reducible assumption | with_reducible refine below_drewN0 ?_ _ | with_reducible refine Below.drew ?_ | with_reducible refine Below.alloc ?_ ?_ _ | with_reducible refine Below.setCell ?_ ?_ _ | go_size | exact Below.size (by assumption)))) (hb1.mono (by simp))
       have HG := Lib.hid (fun w' (h : Below w1.heap.size w1 w') => blk2 ((h.block w.heap.size (by have := hb1.size; simp at this; omega)).trans ((hb1.block w.heap.size (by simp)).trans (heap_alloc_new _ _))))))
  have hs1 : w.heap.size + 1 ≤ w1.heap.size := by have := hb1.size; simp at this; omega
  clear hb1
  go_loopw [5, 6, 7] (fun v5 v6 i wr => ∃ k : Nat, k ≤ es.length ∧ i = .int .i64 k ∧ Below w1.heap.size w1 wr ∧ Hid (wr.ownsRow w1.heap.size 3 1 v5 (lowL (es.take k) v).length (icells (lowL (es.take k) v))) ∧ Hid (wr.ownsRow w1.heap.size 3 1 v6 (highL (es.take k) v).length (icells (highL (es.take k) v))) ∧ Hid (∀ g, v5.ownBlock = some g → v6.ownBlock ≠ some g)) (fun _ _ i _ => es.length - (intOf i).toNat)
  case atStart => exact ⟨0, Nat.zero_le _, rfl, Below.refl _ _, own_nil0 _ _ _ _, own_nil0 _ _ _ _, fun g h => by simp [Value.ownBlock] at h⟩
  case round =>
    obtain ⟨k, hk, rfl, hb, ho5, ho6, hne⟩ := hrel
    have hsr := hb.size
    by_cases hlt : k < es.length
    · obtain ⟨⟨x, y⟩, hxy⟩ : ∃ e, es[k]? = some e := ⟨es[k], by simp [hlt]⟩
      have hord : x < y := (HOK.out _ (List.mem_of_getElem? hxy)).2.1
      obtain ⟨b, o, rfl, hbl, e1, e2⟩ := hr.pair' k _ hxy
      have HLo := Lib.hid (lowL_one es k x y hxy v)
      have HHi := Lib.hid (highL_one es k x y hxy v)
      have hl5 := lowL_length (es.take k) v
      have hl6 := highL_length (es.take k) v
      have htk := List.length_take_le k es
      clear hxy
      have hkc : (k : Int) < (es.length : Int) := by omega
      have HK := Lib.hid (fun (w' : World) (h : Below w1.heap.size w1 w') => (⟨(HG.out _ h).1, (HG.out _ h).2.1, (h.cell (p := ⟨b, o + k * 2, none⟩) (by dsimp only; omega)).trans ((hbw.cell (p := ⟨b, o + k * 2, none⟩) hbl).trans e1), (h.cell (p := ⟨b, o + k * 2 + 1, none⟩) (by dsimp only; omega)).trans ((hbw.cell (p := ⟨b, o + k * 2 + 1, none⟩) hbl).trans e2)⟩ : w'.cell? ⟨w.heap.size, 0, none⟩ = some (.int .i64 n) ∧ w'.cell? ⟨w.heap.size, 1, none⟩ = some (.slice (some ⟨b, o, none⟩) es.length c) ∧ w'.cell? ⟨b, o + k * 2, none⟩ = some (.int .i64 x) ∧ w'.cell? ⟨b, o + k * 2 + 1, none⟩ = some (.int .i64 y)))
      obtain ⟨a0, a1, a2, a3⟩ := HK.out _ hb
      clear e1 e2
      obtain ⟨A5, c5, rfl, hc5, hr5⟩ := own_reads0 ho5.out
      obtain ⟨A6, c6, rfl, hc6, hr6⟩ := own_reads0 ho6.out
      have HO5 := ho5
      have HO6 := ho6
      clear ho5 ho6
      by_cases hy : y = v
      · subst hy
        have hx : ¬ x = y := by omega
        have hx' : (x == y) = false := by simpa using hx
        go_wp2_with (first
          | (at_builtin; go_loud (
             refine wpList_app EI_int rfl (.tmp 26) (.tmp 33) rfl w1.heap.size (.slice A5 (lowL (es.take k) y).length c5) (lowL (es.take k) y).length (icells (lowL (es.take k) y)) rfl ?_ (some ⟨wr.heap.size, 0, none⟩) 1 1 [.int .i64 x] rfl ?_ rfl ?_ ?_ ?_ ?_
             · exact own_below0 HO5.out (by (repeat (first | with_reducible exact Below.refl _ _ | with_reducible assumption | with_reducible refine below_drewN0 ?_ _ | with_reducible refine Below.drew ?_ | with_reducible refine Below.alloc ?_ ?_ _ | with_reducible refine Below.setCell ?_ ?_ _ | go_size | exact Below.size (by assumption))))
             · exact reads_new _ [_] _
             · simp [Value.oneCell']
             · omega
             · go_size
             intro v5' w5 hown5 hg5 hat5
             obtain ⟨hb5, hown6, hne5⟩ := two_rows hb hsr HO5.out HO6.out hne.out _ hg5 hat5
             have HN5 := Lib.hid hne5
             obtain ⟨b0, b1, b2, b3⟩ := HK.out _ hb5
             clear hne5)))
        go_roundw
        case rel => exact ⟨k + 1, by omega, by go_num, hb5, by rw [HLo.out, if_pos rfl]; exact own_cast hown5 (Nat.le_refl _) (by simp) (by simp [icells]), by rw [HHi.out, if_neg hx]; exact hown6, HN5⟩
        case measure => simp [intOf]; omega
      · have hy' : (y == v) = false := by simpa using hy
        by_cases hx : x = v
        · subst hx
          go_wp2_with (first
            | (at_builtin; go_loud (
               refine wpList_app EI_int rfl (.tmp 43) (.tmp 50) rfl w1.heap.size (.slice A6 (highL (es.take k) x).length c6) (highL (es.take k) x).length (icells (highL (es.take k) x)) rfl ?_ (some ⟨wr.heap.size, 0, none⟩) 1 1 [.int .i64 y] rfl ?_ rfl ?_ ?_ ?_ ?_
               · exact own_below0 HO6.out (by (repeat (first | with_reducible exact Below.refl _ _ | with_reducible assumption | with_reducible refine below_drewN0 ?_ _ | with_reducible refine Below.drew ?_ | with_reducible refine Below.alloc ?_ ?_ _ | with_reducible refine Below.setCell ?_ ?_ _ | go_size | exact Below.size (by assumption))))
               · exact reads_new _ [_] _
               · simp [Value.oneCell']
               · omega
               · go_size
               intro v6' w6 hown6 hg6 hat6
               obtain ⟨hb6, hown5, hne6⟩ := two_rows hb hsr HO6.out HO5.out (fun g hg hx => hne.out g hx hg) _ hg6 hat6
               have HN6 := Lib.hid hne6
               clear hne6)))
          go_roundw
          case rel => exact ⟨k + 1, by omega, by go_num, hb6, by rw [HLo.out, if_neg hy]; exact hown5, by rw [HHi.out, if_pos rfl]; exact own_cast hown6 (Nat.le_refl _) (by simp) (by simp [icells]), fun g hg hx => HN6.out g hx hg⟩
          case measure => simp [intOf]; omega
        · have hx' : (x == v) = false := by simpa using hx
          go_wp2_with fail
          go_roundw
          case rel => exact ⟨k + 1, by omega, by go_num, hb, by rw [HLo.out, if_neg hy]; exact HO5, by rw [HHi.out, if_neg hx]; exact HO6, hne⟩
          case measure => simp [intOf]; omega
    · obtain rfl : k = es.length := by omega
      simp only [List.take_length] at ho5 ho6 hne
      obtain ⟨A5, c5, rfl, hc5, hr5⟩ := own_reads0 ho5.out
      obtain ⟨A6, c6, rfl, hc6, hr6⟩ := own_reads0 ho6.out
      have HO5 := ho5
      have HO6 := ho6
      clear ho5 ho6
      obtain ⟨a0, a1, a2, a3, a4⟩ := HG.out _ hb
      have hl5 := lowL_length es v
      have hl6 := highL_length es v
      go_wp2_with (first
          | (at_builtin; go_loud (
             refine wpList_app EI_int rfl (.tmp 52) (.tmp 53) rfl w1.heap.size (.slice A5 (lowL es v).length c5) (lowL es v).length (icells (lowL es v)) rfl HO5.out A6 (highL es v).length c6 (icells (highL es v)) rfl hr6 ?_ (icells_one _) ?_ ?_ ?_
             · simp [icells]
             · omega
             · go_size
             intro v7 w7 hown7 hg7 hat7
             obtain ⟨A7, c7, rfl, hc7, hr7⟩ := own_reads0 hown7
             have hb7 : Below w1.heap.size w1 w7 := below_app hb hg7 hsr (fun g hg => (own_lt0 HO5.out g hg).1))))
      go_ret
      refine ⟨A7, c7, by simp [nearL], by simpa [nearL] using hc7, by rw [nearL, icells_append]; exact hr7, hbw.trans (hb7.mono (by omega))⟩
theorem refNear_any (n v : Int) (es : List (Int × Int)) (A : Option Addr) (c : Nat) (w : World) (hr : Reads w A (pcells es)) (hc : es.length ≤ c) (hm : es.length ≤ 4611686018427387903) :
    Calls Try.prog 39 #[.agg #[.int .i64 n, .slice A es.length c], .int .i64 v] w (RowPost (nearB n es v) w) := by
  cases hR : rightB n es with
  | true =>
    rw [nearB_right hR]
    exact refNear_ok n v es A c w hr hc hm hR
  | false =>
    have hnil : nearB n es v = [] := by unfold nearB; rw [if_neg (by simp [hR])]
    rw [hnil]
    have HRt := fun W hr => refRight n es A c W hr hc hm
    rw [hR] at HRt
    clear hR hnil
    go_enter Try.func39, Try.ntmps39
    go_wp2_with (first
      | (go_at_call 32; refine (HRt _ (hr.below ?_)).mono ?_
         · (repeat (first | with_reducible exact Below.refl _ _ | with_reducible assumption | with_reducible refine below_drewN0 ?_ _ | with_reducible refine Below.drew ?_ | with_reducible refine Below.alloc ?_ ?_ _ | with_reducible refine Below.setCell ?_ ?_ _ | go_size | exact Below.size (by assumption)))
         rintro e w1 ⟨rfl, hb1⟩
         have hbw : Below w.heap.size w w1 := Below.trans (by (repeat (first | with_reducible exact Below.refl _ _ | with_reducible assumption | with_reducible refine below_drewN0 ?_ _ | with_reducible refine Below.drew ?_ | with_reducible refine Below.alloc ?_ ?_ _ | with_reducible refine Below.setCell ?_ ?_ _ | go_size | exact Below.size (by assumption)))) (hb1.mono (by simp))))
    go_ret
    exact ⟨none, 0, rfl, Nat.le_refl _, .inl rfl, hbw⟩
end Go.Proofs.Ytglhdoibglafbaa
