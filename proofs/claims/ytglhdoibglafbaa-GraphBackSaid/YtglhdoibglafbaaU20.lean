/- Walk of pdqsortCmpFunc at edges, over a contract of partialInsertionSort. -/
import Derived.Test.YtglhdoibglafbaaU10
import Derived.Test.YtglhdoibglafbaaU11
import Derived.Test.YtglhdoibglafbaaU12
import Derived.Sort.LotB
import Derived.Sort.LotD3
import Derived.Test.YtglhdoibglafbaaU04
import Derived.Sort.Grow
import Derived.Shelf.SlLaysF0
import Derived.Ground.SlsfProg
import Derived.Test.YtglhdoibglafbaaU05
import Derived.Test.YtglhdoibglafbaaU09
import Derived.Test.YtglhdoibglafbaaU08
namespace Go.Proofs.Ytglhdoibglafbaa
open Go Go.RowKit
set_option maxRecDepth 100000
set_option linter.unusedVariables false
set_option linter.unusedSimpArgs false

def SortPost (w0 : World) (g : Nat) (T : TypeId) (rest : List Value) (d : Array PE) (a b : Nat) (e : Ending) (w' : World) : Prop :=
  e = .returned (.tuple #[]) ∧ ∃ d', Sort.PermIn a b d d' ∧ Sort.SortedIn ltP a b d' ∧ SR w0 g T rest d' w'

section
variable (w0 : World) (g : Nat) (T : TypeId) (rest : List Value) (c N : Nat)
/-- What is asked of partialInsertionSort. -/
def PIok : Prop := ∀ (W : World) (d : Array PE) (a l : Nat), d.size = N → SR w0 g T rest d W → 12 < l → a + l ≤ d.size → Sort.Below ltP a (a + l) d →
  Calls Try.prog 112 #[.slice (some ⟨g, 0, none⟩) N c, .int .i64 a, .int .i64 ((a : Int) + (l : Int)), (Value.func (.func 68) #[.agg #[]] #[])] W fun e w' => ∃ (bb : Bool) (d' : Array PE), e = .returned (.bool bb) ∧ Sort.PermIn a (a + l) d d' ∧ (bb = true → Sort.SortedIn ltP a (a + l) d') ∧ SR w0 g T rest d' w'

set_option maxHeartbeats 8000000 in
theorem pdq_of (hN : N ≤ 1000000) (hg : g < w0.heap.size) (HPI : PIok w0 g T rest c N) : ∀ (n : Nat) (W : World) (d : Array PE) (a b lim : Nat), b - a ≤ n → d.size = N → a ≤ b → b ≤ N → lim ≤ 1000000 → Sort.Below ltP a b d → SR w0 g T rest d W →
    Calls Try.prog 94 #[.slice (some ⟨g, 0, none⟩) N c, .int .i64 a, .int .i64 b, .int .i64 lim, (Value.func (.func 68) #[.agg #[]] #[])] W (SortPost w0 g T rest d a b) := by
  intro n
  induction n with
  | zero =>
    intro W d a b lim hn hsz hab hb hlim hB hS
    obtain rfl : b = a := by omega
    have HI := ins_any w0 W g T rest d c b b hS (Nat.le_refl _) (by omega) (by omega)
    rw [hsz] at HI
    have hp := Lib.hid (Sort.insertionSort_holds (lt := ltP) swoE d b b (Nat.le_refl _) (by omega))
    clear hB hS
    go_enter Try.func94, Try.ntmps94
    go_wp2_with fail
    go_loopw [1, 2, 3, 10, 11] (fun v1 v2 v3 v10 v11 wx => v1 = .int .i64 b ∧ v2 = .int .i64 b ∧ v3 = .int .i64 lim ∧ v10 = .bool true ∧ v11 = .bool true ∧ wx = W) (fun v1 v2 _ _ _ _ => (intOf v2 - intOf v1).toNat)
    case atStart => exact ⟨rfl, rfl, rfl, rfl, rfl, rfl⟩
    case round =>
      obtain ⟨rfl, rfl, rfl, rfl, rfl, rfl⟩ := hrel
      go_wp2_with (first | (go_at_call 107; go_loud (refine HI.mono ?_; rintro e w1 ⟨rfl, hS1⟩)))
      first | go_end0 | (refine bodyPost_ret (results_none rfl _ _ _) rfl ?_)
      exact ⟨rfl, _, hp.out.1, hp.out.2, hS1⟩
  | succ n ih =>
    intro W d a b lim hn hsz hab hb hlim hB hS
    have HS := Lib.hid hS
    have HB := Lib.hid hB
    clear hS hB
    go_enter Try.func94, Try.ntmps94
    go_wp2_with fail
    go_loopw [1, 2, 3, 10, 11] (fun v1 v2 v3 v10 v11 wx => ∃ (a' b' lim' : Nat) (wb wp : Bool) (dk : Array PE), v1 = .int .i64 a' ∧ v2 = .int .i64 b' ∧ v3 = .int .i64 lim' ∧ v10 = .bool wb ∧ v11 = .bool wp ∧ a' ≤ b' ∧ b' ≤ N ∧ b' - a' ≤ n + 1 ∧ lim' ≤ 1000000 ∧ dk.size = N ∧
      Hid (Sort.Below ltP a' b' dk) ∧ Hid (∀ R, Sort.PermIn a' b' dk R → Sort.SortedIn ltP a' b' R → Sort.PermIn a b d R ∧ Sort.SortedIn ltP a b R) ∧ Hid (SR w0 g T rest dk wx)) (fun v1 v2 _ _ _ _ => (intOf v2 - intOf v1).toNat)
    case atStart => exact ⟨a, b, lim, true, true, d, rfl, rfl, rfl, rfl, rfl, hab, hb, hn, hlim, hsz, HB, fun R h1 h2 => ⟨h1, h2⟩, HS⟩
    case round =>
      clear HS HB
      obtain ⟨a', b', lim', wb, wp, dk, rfl, rfl, rfl, rfl, rfl, hab', hb', hn', hl', hdk, hBl, hC, hS⟩ := hrel
      obtain ⟨l, hl1, hl2⟩ : ∃ l, l ≤ b' - a' ∧ b' - a' ≤ l := ⟨b' - a', Nat.le_refl _, Nat.le_refl _⟩
      have wl : IntKind.i64.wrap ((b' : Int) - (a' : Int)) = (l : Int) := by rw [IntKind.wrap_i64]; omega
      by_cases h12 : l ≤ 12
      · have lI : (l : Int) ≤ 12 := by omega
        have HI := ins_any w0 wr g T rest dk c a' b' hS.out hab' (by omega) (by omega)
        rw [hdk] at HI
        have hp := Lib.hid (Sort.insertionSort_holds (lt := ltP) swoE dk a' b' hab' (by omega))
        go_wp2_with (first | (go_at_call 107; go_loud (refine HI.mono ?_; rintro e w1 ⟨rfl, hS1⟩)))
        first | go_end0 | (refine bodyPost_ret (results_none rfl _ _ _) rfl ?_)
        obtain ⟨q1, q2⟩ := hC.out _ hp.out.1 hp.out.2
        exact ⟨rfl, _, q1, q2, hS1⟩
      · have lI : ¬ (l : Int) ≤ 12 := by omega
        obtain rfl : b' = a' + l := by omega
        have hbI : ((a' + l : Nat) : Int) = (a' : Int) + (l : Int) := by omega
        by_cases h0 : lim' = 0
        · have l0 : (lim' : Int) = 0 := by omega
          have HH := heap_any w0 wr g T rest dk c a' l hS.out (by omega) (by omega) (by omega)
          rw [hdk] at HH
          have hp := Lib.hid (Sort.heapSort_holds (lt := ltP) swoE dk a' (a' + l) hab' (by omega))
          go_wp2_with (first | (go_at_call 108; go_loud (refine HH.mono ?_; rintro e w1 ⟨rfl, hS1⟩)))
          first | go_end0 | (refine bodyPost_ret (results_none rfl _ _ _) rfl ?_)
          obtain ⟨q1, q2⟩ := hC.out _ hp.out.1 hp.out.2
          exact ⟨rfl, _, q1, q2, hS1⟩
        · have l0 : ¬ (lim' : Int) = 0 := by omega
          have l0' : ((lim' : Int) == 0) = false := by simp; omega
          have hl13 : 12 < l := by omega
          go_upto_if 39 with fail
          go_cut [3] (fun v3 wc => ∃ (lim1 : Nat) (dk1 : Array PE), v3 = .int .i64 lim1 ∧ lim1 ≤ 1000000 ∧ dk1.size = N ∧ Hid (Sort.Below ltP a' (a' + l) dk1) ∧ Hid (∀ R, Sort.PermIn a' (a' + l) dk1 R → Sort.SortedIn ltP a' (a' + l) R → Sort.PermIn a b d R ∧ Sort.SortedIn ltP a b R) ∧ Hid (SR w0 g T rest dk1 wc))
          case first =>
            cases wb
            · have HBk := break_any w0 wr g T rest dk c a' l hS.out hl13 (by omega) (by omega) hg
              rw [hdk] at HBk
              have wlim : IntKind.i64.wrap ((lim' : Int) - 1) = (lim' : Int) - 1 := by rw [IntKind.wrap_i64]; omega
              go_wp2_with (go_at_call 109; go_loud (refine HBk.mono ?_; rintro e w1 ⟨rfl, dk1, hp1, hS1⟩))
              go_meet
              exact ⟨lim' - 1, dk1, by go_num, by omega, hp1.1.trans hdk, hBl.out.perm (by omega) hp1, fun R h1 h2 => hC.out R (Sort.permIn_trans _ _ _ _ _ hp1 h1) h2, hS1⟩
            · go_wp2_with fail
              go_meet
              exact ⟨lim', dk, rfl, hl', hdk, hBl, hC, hS⟩
          case rest =>
            clear hBl hC hS hl' hdk l0 l0' h0
            obtain ⟨lim1, dk1, rfl, hlim1, hdk1, hB1, hC1, hS⟩ := hcut
            obtain ⟨w1, rfl⟩ : ∃ z, z = wc := ⟨_, rfl⟩
            have HPv := pivot_any w0 w1 g T rest dk1 c a' l hS.out hl13 (by omega) (by omega) hg
            rw [hdk1] at HPv
            go_upto_if 56 with (go_at_call 110; go_loud (refine HPv.mono ?_; rintro e w2 ⟨pv, ht, rfl, hpa, hpb, hht, hS2⟩))
            go_cut [13, 14] (fun v13 v14 wc => ∃ (pv ht : Nat) (dk2 : Array PE), v13 = .int .i64 pv ∧ v14 = .int .i64 ht ∧ a' ≤ pv ∧ pv < a' + l ∧ dk2.size = N ∧ Hid (Sort.Below ltP a' (a' + l) dk2) ∧ Hid (∀ R, Sort.PermIn a' (a' + l) dk2 R → Sort.SortedIn ltP a' (a' + l) R → Sort.PermIn a b d R ∧ Sort.SortedIn ltP a b R) ∧ Hid (SR w0 g T rest dk2 wc))
            case first =>
              by_cases h2 : ht = 2
              · subst h2
                have HRv := rev_any w0 w2 g T rest dk1 c a' (a' + l) hS2 (by omega) (by omega) (by omega)
                rw [hdk1, hbI] at HRv
                have hp2 := Sort.reverseRange_holds dk1 a' (a' + l) hab' (by omega)
                have wb1 : IntKind.i64.wrap ((a' : Int) + (l : Int) - 1) = (a' : Int) + (l : Int) - 1 := by rw [IntKind.wrap_i64]; omega
                have wb2 : IntKind.i64.wrap ((pv : Int) - (a' : Int)) = (pv : Int) - (a' : Int) := by rw [IntKind.wrap_i64]; omega
                obtain ⟨pv2, wb3, hpa2, hpb2⟩ : ∃ k : Nat, IntKind.i64.wrap ((a' : Int) + (l : Int) - 1 - ((pv : Int) - (a' : Int))) = (k : Int) ∧ a' ≤ k ∧ k < a' + l := ⟨a' + l - 1 - (pv - a'), by rw [IntKind.wrap_i64]; omega, by omega, by omega⟩
                have HP2 := Lib.hid hp2
                clear hp2
                go_wp2_with (go_at_call 111; go_loud (refine HRv.mono ?_; rintro e w3 ⟨rfl, hS3⟩))
                go_meet
                exact ⟨pv2, 1, _, rfl, rfl, hpa2, hpb2, HP2.out.1.trans hdk1, hB1.out.perm (by omega) HP2.out, fun R h1 h2 => hC1.out R (Sort.permIn_trans _ _ _ _ _ HP2.out h1) h2, hS3⟩
              · have h2I : ((ht : Int) == 2) = false := by simp; omega
                have h2J : ¬ (ht : Int) = 2 := by omega
                go_wp2_with fail
                go_meet
                exact ⟨pv, ht, dk1, rfl, rfl, hpa, hpb, hdk1, hB1, hC1, hS2⟩
            case rest =>
              clear hB1 hC1 hS hS2 hpa hpb hht
              obtain ⟨pv', ht', dk2, rfl, rfl, hpa, hpb, hdk2, hB2, hC2, hS⟩ := hcut
              obtain ⟨pv, rfl⟩ : ∃ z, z = pv' := ⟨_, rfl⟩
              obtain ⟨ht, rfl⟩ : ∃ z, z = ht' := ⟨_, rfl⟩
              obtain ⟨w3, rfl⟩ : ∃ z, z = wc := ⟨_, rfl⟩
              have HPi := HPI w3 dk2 a' l hdk2 hS.out hl13 (by omega) hB2.out
              go_upto_region 15 with fail
              go_cut [75] (fun v75 wc => ∃ q : Bool, v75 = .bool q ∧ wc = w3)
              case first =>
                clear HPi hS hC2 hB2
                cases wb <;> cases wp <;> by_cases hq1 : (ht : Int) = 1
                all_goals
                  go_wp2_with fail
                  go_meet
                  exact ⟨_, rfl, rfl⟩
              case rest =>
                obtain ⟨q, rfl, rfl⟩ := hcut
                go_upto_if 75 with fail
                go_cut [13] (fun v13 wc => ∃ (dk3 : Array PE), v13 = .int .i64 pv ∧ dk3.size = N ∧ Hid (Sort.Below ltP a' (a' + l) dk3) ∧ Hid (∀ R, Sort.PermIn a' (a' + l) dk3 R → Sort.SortedIn ltP a' (a' + l) R → Sort.PermIn a b d R ∧ Sort.SortedIn ltP a b R) ∧ Hid (SR w0 g T rest dk3 wc))
                case first =>
                  cases q
                  · go_wp2_with fail
                    go_meet
                    exact ⟨dk2, rfl, hdk2, hB2, hC2, hS⟩
                  · go_wp2_with (go_at_call 112; go_loud (refine HPi.mono ?_; rintro e w4 ⟨bb, dk3, rfl, hp3, hs3, hS4⟩))
                    · refine bodyPost_ret (results_none rfl _ _ _) rfl ?_
                      obtain ⟨q1, q2⟩ := hC2.out _ hp3 (hs3 (by assumption))
                      exact ⟨rfl, _, q1, q2, hS4⟩
                    · go_meet
                      exact ⟨dk3, rfl, hp3.1.trans hdk2, hB2.out.perm (by omega) hp3, fun R h1 h2 => hC2.out R (Sort.permIn_trans _ _ _ _ _ hp3 h1) h2, hS4⟩
                case rest =>
                  clear hB2 hC2 hS HPi hdk2
                  obtain ⟨dk3, rfl, hdk3, hB3, hC3, hS⟩ := hcut
                  obtain ⟨dk, rfl⟩ : ∃ z, z = dk3 := ⟨_, rfl⟩
                  obtain ⟨wr, rfl⟩ : ∃ z, z = wc := ⟨_, rfl⟩
                  go_upto_region 17 with fail
                  go_cut [97] (fun v wc => ∃ bb : Bool, v = .bool bb ∧ Hid (bb = true → 0 < a' ∧ ltP dk[a' - 1]! dk[pv]! = false) ∧ Hid (SR w0 g T rest dk wc))
                  case first =>
                    by_cases ha0 : 0 < a'
                    · obtain ⟨ap, rfl⟩ : ∃ p, a' = p + 1 := ⟨a' - 1, by omega⟩
                      have g1 : decide ((0 : Int) < ((ap + 1 : Nat) : Int)) = true := decide_eq_true (by omega)
                      have g2 : decide ((0 : Int) < (ap : Int) + 1) = true := decide_eq_true (by omega)
                      have g3 : (0 : Int) ≤ (ap : Int) := by omega
                      have g4 : (ap : Int) < (N : Int) := by omega
                      have g5 : (0 : Int) ≤ (pv : Int) := by omega
                      have g6 : (pv : Int) < (N : Int) := by omega
                      have w1 : IntKind.i64.wrap ((ap : Int) + 1 - 1) = (ap : Int) := by rw [IntKind.wrap_i64]; omega
                      have w2 : IntKind.i64.wrap (ap : Int) = (ap : Int) := by rw [IntKind.wrap_i64]; omega
                      clear hC3 hB3
                      ((obtain ⟨x, hx⟩ : ∃ x : PE, x = dk[ap]! := ⟨_, rfl⟩
                        obtain ⟨y, hy⟩ : ∃ y : PE, y = dk[pv]! := ⟨_, rfl⟩
                        have x0 := hS.out.cell0 (i := ap) (by omega)
                        have x1 := hS.out.cell1 (i := ap) (by omega)
                        have y0 := hS.out.cell0 (i := pv) (by omega)
                        have y1 := hS.out.cell1 (i := pv) (by omega)
                        rw [← hx] at x0 x1
                        rw [← hy] at y0 y1
                        have HX := Lib.hid hx
                        have HY := Lib.hid hy
                        clear hx hy)
                       have HC := fun W => compareE x.1 x.2 y.1 y.2 W
                       have hlt : Hid (ltP dk[ap]! dk[pv]! = decide (cmpE x.1 x.2 y.1 y.2 < 0)) := by unfold Hid; rw [← HX.out, ← HY.out]; rfl
                       have hgl := hS.out.lt
                       have HK := Lib.hid (fun (W' : World) (h : Below wr.heap.size wr W') => (⟨(h.cell (p := ⟨g, (ap) * 2, none⟩) hgl).trans x0, (h.cell (p := ⟨g, (ap) * 2 + 1, none⟩) hgl).trans x1, (h.cell (p := ⟨g, (pv) * 2, none⟩) hgl).trans y0, (h.cell (p := ⟨g, (pv) * 2 + 1, none⟩) hgl).trans y1⟩ :
                         W'.cell? ⟨g, (ap) * 2, none⟩ = some (.int .i64 x.1) ∧ W'.cell? ⟨g, (ap) * 2 + 1, none⟩ = some (.int .i64 x.2) ∧ W'.cell? ⟨g, (pv) * 2, none⟩ = some (.int .i64 y.1) ∧ W'.cell? ⟨g, (pv) * 2 + 1, none⟩ = some (.int .i64 y.2)))
                       generalize cmpE x.1 x.2 y.1 y.2 = cp at HC hlt
                       (try go_wp2_with fail)
                       go_region_held3 (fun w' => w'.cell? ⟨g, (ap) * 2, none⟩ = some (.int .i64 x.1) ∧ w'.cell? ⟨g, (ap) * 2 + 1, none⟩ = some (.int .i64 x.2) ∧ w'.cell? ⟨g, (pv) * 2, none⟩ = some (.int .i64 y.1) ∧ w'.cell? ⟨g, (pv) * 2 + 1, none⟩ = some (.int .i64 y.2))
                         (first | exact ⟨x0, x1, y0, y1⟩ | exact HK.out _ hbT | (refine HK.out _ ?_; (repeat (first | with_reducible exact Below.refl _ _ | with_reducible assumption | with_reducible refine below_drewN0 ?_ _ | with_reducible refine Below.drew ?_ | with_reducible refine Below.alloc ?_ ?_ _ | with_reducible refine Below.setCell ?_ ?_ _ | go_size | exact Below.size (by assumption))); done))
                         (first | (go_at_call 68; go_loud (refine (HC _).mono ?_; rintro e w1 ⟨rfl, hbc⟩; have hbT : Below wr.heap.size wr w1 := Below.trans (by (repeat (first | with_reducible exact Below.refl _ _ | with_reducible assumption | with_reducible refine below_drewN0 ?_ _ | with_reducible refine Below.drew ?_ | with_reducible refine Below.alloc ?_ ?_ _ | with_reducible refine Below.setCell ?_ ?_ _ | go_size | exact Below.size (by assumption)))) (hbc.mono (by go_size)))))
                       have hS1 := Lib.hid (hS.out.below hbT)
                       clear HC HK x0 x1 y0 y1)
                      have HP := Lib.hid (show ltP dk[ap + 1 - 1]! dk[pv]! = decide (cp < 0) from hlt.out)
                      go_wp2_with fail
                      go_meet
                      exact ⟨!decide (cp < 0), rfl, fun h => ⟨by omega, HP.out.trans (by simpa using h)⟩, hS1⟩
                    · have g1 : decide ((0 : Int) < (a' : Int)) = false := decide_eq_false (by omega)
                      have g2 : decide (0 < a') = false := decide_eq_false ha0
                      go_wp2_with fail
                      go_quiet (fail)
                      go_wp2_with fail
                      go_meet
                      exact ⟨false, rfl, fun h => (by cases h), hS⟩
                  case rest =>
                    clear hS
                    obtain ⟨bb, rfl, hBB, hS⟩ := hcut
                    obtain ⟨wr', rfl⟩ : ∃ z, z = wr := ⟨_, rfl⟩
                    obtain ⟨wr, rfl⟩ : ∃ z, z = wc := ⟨_, rfl⟩
                    cases bb
                    · have HPt := part_any w0 wr g T rest dk c a' l pv hS.out hl13 (by omega) (by omega) hpa hpb
                      have hrp := fun (mid : Nat) (ap : Bool) (d4 : Array PE) (hx : Sort.partition ltP dk a' (a' + l) pv = (mid, ap, d4)) => Sort.round_part (lt := ltP) swoE (Sort.partition_holds ltP) hpa hpb (by omega) hB3.out hx
                      obtain ⟨mid', ap', d4, hx⟩ : ∃ m p d, Sort.partition ltP dk a' (a' + l) pv = (m, p, d) := ⟨_, _, _, rfl⟩
                      have hrr := Lib.hid (hrp mid' ap' d4 hx)
                      rw [hx, hdk3] at HPt
                      clear hrp hx hB3 hS hBB
                      have hm1 := hrr.out.1
                      have hm2 := hrr.out.2.1
                      have w1 : IntKind.i64.wrap ((mid' : Int) - (a' : Int)) = (mid' : Int) - (a' : Int) := by rw [IntKind.wrap_i64]; omega
                      have w2 : IntKind.i64.wrap ((a' : Int) + (l : Int) - (mid' : Int)) = (a' : Int) + (l : Int) - (mid' : Int) := by rw [IntKind.wrap_i64]; omega
                      have w3 : IntKind.i64.wrap ((mid' : Int) + 1) = (mid' : Int) + 1 := by rw [IntKind.wrap_i64]; omega
                      have hmI : ((mid' + 1 : Nat) : Int) = (mid' : Int) + 1 := by omega
                      by_cases hlr : (mid' : Int) - (a' : Int) < (a' : Int) + (l : Int) - (mid' : Int)
                      · have HI := fun (W : World) (h : SR w0 g T rest d4 W) => ih W d4 a' mid' lim1 (by omega) (hrr.out.2.2.1.trans hdk3) hm1 (by omega) hlim1 hrr.out.2.2.2.1 h
                        go_wp2_with (first | (go_at_call 114; go_loud (refine HPt.mono ?_; rintro e w4 ⟨mid, bq, rfl, hmid, hS4⟩; obtain rfl : mid' = mid := hmid; have hS4 : SR w0 g T rest d4 w4 := hS4)) | (go_at_call 94; go_loud (refine (HI _ hS4).mono ?_; rintro e w5 ⟨rfl, dL, hpL, hsL, hS5⟩)))
                        obtain ⟨_, _, m3, m4, m5, m6, m7⟩ := hrr.out
                        obtain ⟨q1, q2⟩ := m6 dL hpL hsL
                        exact ⟨⟨mid' + 1, a' + l, lim1, _, _, dL, by go_num, by go_num, rfl, rfl, rfl, by omega, by omega, by omega, hlim1, hpL.1.trans (m3.trans hdk3), q1, fun R h1 h2 => hC3.out R (q2 R h1 h2).1 (q2 R h1 h2).2, hS5⟩, by simp [intOf]; omega⟩
                      · have HI := fun (W : World) (h : SR w0 g T rest d4 W) => ih W d4 (mid' + 1) (a' + l) lim1 (by omega) (hrr.out.2.2.1.trans hdk3) (by omega) (by omega) hlim1 hrr.out.2.2.2.2.1 h
                        rw [hbI, hmI] at HI
                        go_wp2_with (first | (go_at_call 114; go_loud (refine HPt.mono ?_; rintro e w4 ⟨mid, bq, rfl, hmid, hS4⟩; obtain rfl : mid' = mid := hmid; have hS4 : SR w0 g T rest d4 w4 := hS4)) | (go_at_call 94; go_loud (refine (HI _ hS4).mono ?_; rintro e w5 ⟨rfl, dL, hpL, hsL, hS5⟩)))
                        obtain ⟨_, _, m3, m4, m5, m6, m7⟩ := hrr.out
                        obtain ⟨q1, q2⟩ := m7 dL hpL hsL
                        exact ⟨⟨a', mid', lim1, _, _, dL, rfl, rfl, rfl, rfl, rfl, by omega, by omega, by omega, hlim1, hpL.1.trans (m3.trans hdk3), q1, fun R h1 h2 => hC3.out R (q2 R h1 h2).1 (q2 R h1 h2).2, hS5⟩, by simp [intOf]; omega⟩
                    · have HPe := partEq_any w0 wr g T rest dk c a' l pv hS.out hl13 (by omega) (by omega) hpa hpb
                      obtain ⟨mid', d4, hx⟩ : ∃ m d, Sort.partitionEqual ltP dk a' (a' + l) pv = (m, d) := ⟨_, _, rfl⟩
                      have hrr := Lib.hid (Sort.round_eq (lt := ltP) swoE (Sort.partitionEqual_holds ltP) (hBB.out rfl).1 hpa hpb (by omega) hB3.out (hBB.out rfl).2 hx)
                      rw [hx, hdk3] at HPe
                      clear hx hB3 hS hBB
                      go_wp2_with (go_at_call 113; go_loud (refine HPe.mono ?_; rintro e w4 ⟨mid, rfl, hmid, hS4⟩))
                      obtain rfl : mid' = mid := hmid
                      have hS4 : SR w0 g T rest d4 w4 := hS4
                      obtain ⟨m1, m2, m3, m4, m5⟩ := hrr.out
                      exact ⟨⟨mid', a' + l, lim1, wb, wp, d4, rfl, by go_num, rfl, rfl, rfl, m2, by omega, by omega, hlim1, m3.trans hdk3, m4, fun R h1 h2 => hC3.out R (m5 R h1 h2).1 (m5 R h1 h2).2, hS4⟩, by simp [intOf]; omega⟩
end
end Go.Proofs.Ytglhdoibglafbaa

/- Queue's compare, as the sort of the shelf wants it: what it does to the world is blocks of its own. -/
namespace Go.Proofs.Ytglhdoibglafbaa
open Go Go.RowKit
set_option maxRecDepth 100000
set_option linter.unusedVariables false
set_option linter.unusedSimpArgs false

/-- Draws, and blocks behind. -/
def GF (w w' : World) : Prop := ∃ q os', w' = Sort.grow (w.drewN q) os'
theorem GF.refl (w : World) : GF w w := ⟨0, #[], by simp [World.drewN]⟩
theorem GF.alloc {w w' : World} (h : GF w w') (o : Obj) : GF w (w'.alloc o) := by
  obtain ⟨q, os, rfl⟩ := h
  exact ⟨q, os ++ #[o], by rw [Sort.alloc_eq_grow, Sort.grow_grow]⟩
theorem GF.drewN {w w' : World} (h : GF w w') (n : Nat) : GF w (w'.drewN n) := by
  obtain ⟨q, os, rfl⟩ := h
  exact ⟨q + n, os, by simp [World.drewN, Sort.grow, Nat.add_assoc]⟩
theorem GF.drew {w w' : World} (h : GF w w') : GF w w'.drew := h.drewN 1
theorem GF.setCell {w w' : World} (h : GF w w') {p : Addr} (hp : w.heap.size ≤ p.block) (u : Value) : GF w (w'.setCell p u) := by
  obtain ⟨q, os, rfl⟩ := h
  refine ⟨q, ?_⟩
  unfold World.setCell Sort.grow
  simp only
  rw [Sort.modify_append_right _ _ _ _ (by exact hp)]
  exact ⟨_, rfl⟩
theorem GF.size {w w' : World} (h : GF w w') : w.heap.size ≤ w'.heap.size := by
  obtain ⟨q, os, rfl⟩ := h
  simp [Sort.grow, World.drewN]

set_option maxHeartbeats 2000000 in
theorem compareG (a b c d : Int) (w : World) :
    Calls Try.prog 85 #[.agg #[.int .i64 a, .int .i64 b], .agg #[.int .i64 c, .int .i64 d]] w fun e w' => e = .returned (.int .i64 (cmpE a b c d)) ∧ GF w w' := by
  have H1 := cmpE_eq a b c d
  obtain ⟨p, hp⟩ : ∃ p : Int, p = (if a < c then (-1 : Int) else if c < a then 1 else 0) := ⟨_, rfl⟩
  obtain ⟨q, hq⟩ : ∃ p : Int, p = (if b < d then (-1 : Int) else if d < b then 1 else 0) := ⟨_, rfl⟩
  rw [← hp, ← hq] at H1
  obtain ⟨r, hr⟩ : ∃ r : Int, r = if p = 0 then q else p := ⟨_, rfl⟩
  have C1 := fun W => cmpInt a c W
  have C2 := fun W => cmpInt b d W
  have C3 := fun g W h0 h1 => or2 p q g W h0 h1
  rw [← hp] at C1
  rw [← hq] at C2
  rw [← hr] at C3 H1
  clear hp hq hr
  rw [← H1]
  clear H1
  go_enter Try.func85, Try.ntmps85
  go_wp2_with fail
  refine wp_tail 10 (by kernel_rfl) (by kernel_rfl) ?_
  simp only [List.take_succ_cons, List.take_zero, List.drop_succ_cons, List.drop_zero]
  repeat (first | still_step | (refine wpStill_step (fun K hK => ?_); go_simp; with_reducible refine ⟨_, flip_w (C1 _), hK _ ?_⟩; clear hK K)  | (refine wpStill_step (fun K hK => ?_); go_simp; with_reducible refine ⟨_, flip_w (C2 _), hK _ ?_⟩; clear hK K))
  refine wpStill_nil ?_
  clear C1 C2
  go_wp2_with fail
  with_reducible refine (C3 _ _ ?_ ?_).mono ?_
  · simp [go_sem]
  · simp [go_sem]
  rintro e w' ⟨rfl, rfl⟩
  clear C3
  go_wp2_with fail
  go_ret
  exact ⟨rfl, by (repeat (first | exact GF.refl _ | refine GF.drewN ?_ _ | refine GF.drew ?_ | refine GF.alloc ?_ _ | refine GF.setCell ?_ ?_ _ | go_size | (simp; done) | (simp; omega)))⟩



end Go.Proofs.Ytglhdoibglafbaa

/- The shelf's sort laid at entries. -/
namespace Go.Proofs.Ytglhdoibglafbaa
open Go Go.RowKit Go.Shelf
set_option maxRecDepth 100000
set_option linter.unusedVariables false
set_option linter.unusedSimpArgs false

def sortN_ren : Go.Shelf.Ren := ⟨fun | 6 => 84 | 15 => 95 | 14 => 102 | 28 => 115 | 29 => 116 | 20 => 119 | 21 => 120 | 22 => 121 | 23 => 122 | 24 => 123 | 25 => 124 | 26 => 125 | 27 => 126 | 46 => 136 | 47 => 130 | 48 => 131 | 49 => 137 | 50 => 138 | 57 => 141 | n => n, fun | 22 => 34 | 24 => 39 | 25 => 114 | 3 => 3 | 39 => 22 | 0 => 0 | 53 => 143 | 55 => 145 | 4 => 4 | 46 => 137 | 45 => 136 | 50 => 103 | 5 => 5 | 9 => 9 | 66 => 153 | 70 => 157 | 76 => 162 | 77 => 163 | n => n, fun | n => n⟩
theorem sortN : Go.Proofs.SlLaysF0.n6 Try.prog sortN_ren := {
  mixed := by kernel_rfl
  f6 := ⟨Try.f84.name, by decide, Try.func84.trans (congrArg some (by kernel_rfl))⟩
  f14 := ⟨Try.f102.name, by decide, Try.func102.trans (congrArg some (by kernel_rfl))⟩
  f15 := Try.func95.trans (congrArg some (by kernel_rfl))
  f20 := ⟨Try.f119.name, by decide, Try.func119.trans (congrArg some (by kernel_rfl))⟩
  f21 := ⟨Try.f120.name, by decide, Try.func120.trans (congrArg some (by kernel_rfl))⟩
  f22 := ⟨Try.f121.name, by decide, Try.func121.trans (congrArg some (by kernel_rfl))⟩
  f23 := ⟨Try.f122.name, by decide, Try.func122.trans (congrArg some (by kernel_rfl))⟩
  f24 := ⟨Try.f123.name, by decide, Try.func123.trans (congrArg some (by kernel_rfl))⟩
  f25 := ⟨Try.f124.name, by decide, Try.func124.trans (congrArg some (by kernel_rfl))⟩
  f26 := ⟨Try.f125.name, by decide, Try.func125.trans (congrArg some (by kernel_rfl))⟩
  f27 := ⟨Try.f126.name, by decide, Try.func126.trans (congrArg some (by kernel_rfl))⟩
  f28 := Try.func115.trans (congrArg some (by kernel_rfl))
  f29 := Try.func116.trans (congrArg some (by kernel_rfl))
  f46 := ⟨Try.f136.name, by decide, Try.func136.trans (congrArg some (by kernel_rfl))⟩
  f47 := Try.func130.trans (congrArg some (by kernel_rfl))
  f48 := Try.func131.trans (congrArg some (by kernel_rfl))
  f49 := ⟨Try.f137.name, by decide, Try.func137.trans (congrArg some (by kernel_rfl))⟩
  f50 := ⟨Try.f138.name, by decide, Try.func138.trans (congrArg some (by kernel_rfl))⟩
  f57 := ⟨Try.f141.name, by decide, Try.func141.trans (congrArg some (by kernel_rfl))⟩
  t0 := Try.underlying0
  a0 := Try.isAgg0
  z0 := Try.sizeOf0
  v0 := Try.zeroValue0
  t3 := Try.underlying3
  a3 := Try.isAgg3
  z3 := Try.sizeOf3
  v3 := Try.zeroValue3
  t4 := Try.underlying4
  a4 := Try.isAgg4
  z4 := Try.sizeOf4
  v4 := Try.zeroValue4
  t5 := Try.underlying5
  a5 := Try.isAgg5
  z5 := Try.sizeOf5
  v5 := Try.zeroValue5
  t9 := Try.underlying9
  a9 := Try.isAgg9
  z9 := Try.sizeOf9
  v9 := Try.zeroValue9
  t22 := Try.underlying34
  a22 := Try.isAgg34
  z22 := Try.sizeOf34
  v22 := Try.zeroValue34
  t25 := Try.underlying114
  a25 := Try.isAgg114
  z25 := Try.sizeOf114
  v25 := Try.zeroValue114
  t39 := Try.underlying22
  a39 := Try.isAgg22
  z39 := Try.sizeOf22
  v39 := Try.zeroValue22
  t45 := Try.underlying136
  a45 := Try.isAgg136
  z45 := Try.sizeOf136
  v45 := Try.zeroValue136
  t46 := Try.underlying137
  a46 := Try.isAgg137
  z46 := Try.sizeOf137
  v46 := Try.zeroValue137
  t50 := Try.underlying103
  a50 := Try.isAgg103
  z50 := Try.sizeOf103
  v50 := Try.zeroValue103
  t53 := Try.underlying143
  a53 := Try.isAgg143
  z53 := Try.sizeOf143
  v53 := Try.zeroValue143
  t55 := Try.underlying145
  a55 := Try.isAgg145
  z55 := Try.sizeOf145
  v55 := Try.zeroValue145
  t66 := Try.underlying153
  a66 := Try.isAgg153
  z66 := Try.sizeOf153
  v66 := Try.zeroValue153
  t70 := Try.underlying157
  a70 := Try.isAgg157
  z70 := Try.sizeOf157
  v70 := Try.zeroValue157
  t76 := Try.underlying162
  a76 := Try.isAgg162
  z76 := Try.sizeOf162
  v76 := Try.zeroValue162
  t77 := Try.underlying163
  a77 := Try.isAgg163
  z77 := Try.sizeOf163
  v77 := Try.zeroValue163 }

end Go.Proofs.Ytglhdoibglafbaa

/- Walks of help's Plain, Own, Kept and of slices.Clone at entries. -/
namespace Go.Proofs.Ytglhdoibglafbaa
open Go Go.RowKit
set_option maxRecDepth 100000
set_option linter.unusedVariables false
set_option linter.unusedSimpArgs false

theorem eqN (a b c d : Int) (w : World) : Calls Try.prog 82 #[.agg #[.int .i64 a, .int .i64 b], .agg #[.int .i64 c, .int .i64 d]] w fun e w' => e = .returned (.bool (decide ((a, b) = (c, d)))) ∧ Below w.heap.size w w' := by
  by_cases h : a = c
  · subst h
    by_cases h2 : b = d
    · subst h2
      go_enter Try.func82, Try.ntmps82
      go_wp2
      go_ret
      exact ⟨by simp, by (repeat (first | with_reducible exact Below.refl _ _ | with_reducible assumption | with_reducible refine below_drewN0 ?_ _ | with_reducible refine Below.drew ?_ | with_reducible refine Below.alloc ?_ ?_ _ | with_reducible refine Below.setCell ?_ ?_ _ | go_size | exact Below.size (by assumption)))⟩
    · go_enter Try.func82, Try.ntmps82
      go_wp2
      go_ret
      exact ⟨by simp [h2], by (repeat (first | with_reducible exact Below.refl _ _ | with_reducible assumption | with_reducible refine below_drewN0 ?_ _ | with_reducible refine Below.drew ?_ | with_reducible refine Below.alloc ?_ ?_ _ | with_reducible refine Below.setCell ?_ ?_ _ | go_size | exact Below.size (by assumption)))⟩
  · go_enter Try.func82, Try.ntmps82
    go_wp2
    go_ret
    exact ⟨by simp [h], by (repeat (first | with_reducible exact Below.refl _ _ | with_reducible assumption | with_reducible refine below_drewN0 ?_ _ | with_reducible refine Below.drew ?_ | with_reducible refine Below.alloc ?_ ?_ _ | with_reducible refine Below.setCell ?_ ?_ _ | go_size | exact Below.size (by assumption)))⟩
theorem eqNP (x y : Int × Int) (w : World) : Calls Try.prog 82 #[.agg #[.int .i64 x.1, .int .i64 x.2], .agg #[.int .i64 y.1, .int .i64 y.2]] w fun e w' => e = .returned (.bool (decide (x = y))) ∧ Below w.heap.size w w' := eqN x.1 x.2 y.1 y.2 w
set_option maxHeartbeats 2000000 in
theorem sameN (l1 l2 : List (Int × Int)) (A1 A2 : Option Addr) (c1 c2 : Nat) (w : World) (h1 : Reads w A1 (pcells l1)) (h2 : Reads w A2 (pcells l2)) (hc1 : l1.length ≤ c1) (hc2 : l2.length ≤ c2) (hm1 : l1.length ≤ 4611686018427387903) (hm2 : l2.length ≤ 4611686018427387903) :
    Calls Try.prog 81 #[.slice A1 l1.length c1, .slice A2 l2.length c2, .func (.func 82) #[] #[]] w fun e w' => e = .returned (.bool (decide (l1 = l2))) ∧ Below w.heap.size w w' := by
  by_cases hl : l1.length = l2.length
  · have HD : ∀ k, (∀ i : Nat, i < k → l1[i]? = l2[i]?) → l1.length ≤ k → l1 = l2 := fun k h hk => by
      apply List.ext_getElem?
      intro i
      by_cases hi : i < l1.length
      · exact h i (by omega)
      · rw [List.getElem?_eq_none (by omega), List.getElem?_eq_none (by omega)]
    have hl2 : ((l1.length : Int) != (l2.length : Int)) = false := by simp [hl]
    have HL := Lib.hid hl
    clear hl
    go_enter Try.func81, Try.ntmps81
    go_wp2_with fail
    go_loopw [7] (fun i wr => ∃ k : Nat, k ≤ l1.length ∧ i = .int .i64 k ∧ Hid (∀ i : Nat, i < k → l1[i]? = l2[i]?) ∧ Below w.heap.size w wr) (fun i _ => l1.length - (intOf i).toNat)
    case atStart => exact ⟨0, Nat.zero_le _, rfl, fun i h => by omega, Below.refl _ _⟩
    case round =>
      obtain ⟨k, hk, rfl, hall, hb⟩ := hrel
      have hbs := hb.size
      by_cases hlt : k < l1.length
      · have hk2 : (k : Int) < (l2.length : Int) := by have := HL.out; omega
        have hk2' : k < l2.length := by have := HL.out; omega
        (obtain ⟨x, hx⟩ : ∃ x, l1[k]? = some x := ⟨l1[k], by simp [hlt]⟩
         obtain ⟨y, hy⟩ : ∃ y, l2[k]? = some y := ⟨l2[k], by simp⟩
         obtain ⟨b1, o1, rfl, hb1, e1, e1'⟩ := (h1.below hb).pair' k x hx
         obtain ⟨b2, o2, rfl, hb2, e2, e2'⟩ := (h2.below hb).pair' k y hy
         have hdum : True := trivial)
        have HX := Lib.hid hx
        have HY := Lib.hid hy
        clear hx hy h1 h2
        by_cases hxy : x = y
        · subst hxy
          have HD9 := Lib.hid HD
          clear HD
          go_wp2_with fail
          (refine wp_quiet_tail 9 (by kernel_rfl) (by kernel_rfl) ?_
           simp only [List.take_succ_cons, List.take_zero, List.drop_succ_cons, List.drop_zero]
           repeat (go_big_quiet_step (fail))
           refine wpQuiet_nil ?_
           intro _ hw'
           obtain ⟨nq, hw''⟩ := hw'
           subst hw'')
          go_wp2_with (go_at_call 82; refine (eqNP _ _ _).mono ?_; simp only [decide_true]; rintro e w1 ⟨rfl, hb1⟩)
          go_roundw
          case rel => exact ⟨k + 1, by omega, by go_num, fun i hi => (by
            by_cases h9 : i = k
            · subst h9; rw [HX.out, HY.out]
            · exact hall.out i (by omega)), hb.trans (Below.trans (by (repeat (first | with_reducible exact Below.refl _ _ | with_reducible assumption | with_reducible refine below_drewN0 ?_ _ | with_reducible refine Below.drew ?_ | with_reducible refine Below.alloc ?_ ?_ _ | with_reducible refine Below.setCell ?_ ?_ _ | go_size | exact Below.size (by assumption)))) (hb1.mono (by simp; try omega)))⟩
          case measure => simp [intOf]; omega
        · have hne : decide (l1 = l2) = false := decide_eq_false (fun h => by
            have := HX.out
            rw [h, HY.out] at this
            exact hxy (by simpa using this.symm))
          have HNE := Lib.hid hne
          have hd := decide_eq_false hxy
          have HD9 := Lib.hid HD
          clear HD hxy hne
          go_wp2_with fail
          (refine wp_quiet_tail 9 (by kernel_rfl) (by kernel_rfl) ?_
           simp only [List.take_succ_cons, List.take_zero, List.drop_succ_cons, List.drop_zero]
           repeat (go_big_quiet_step (fail))
           refine wpQuiet_nil ?_
           intro _ hw'
           obtain ⟨nq, hw''⟩ := hw'
           subst hw'')
          go_wp2_with (go_at_call 82; refine (eqNP _ _ _).mono ?_; simp only [hd]; rintro e w1 ⟨rfl, hb1⟩)
          go_ret
          exact ⟨by rw [HNE.out]; rfl, hb.trans (Below.trans (by (repeat (first | with_reducible exact Below.refl _ _ | with_reducible assumption | with_reducible refine below_drewN0 ?_ _ | with_reducible refine Below.drew ?_ | with_reducible refine Below.alloc ?_ ?_ _ | with_reducible refine Below.setCell ?_ ?_ _ | go_size | exact Below.size (by assumption)))) (hb1.mono (by simp; try omega)))⟩
      · have hne : decide (l1 = l2) = true := decide_eq_true (HD k hall.out (by omega))
        have HNE := Lib.hid hne
        clear HD hne
        go_wp2_with fail
        go_ret
        exact ⟨by rw [HNE.out]; rfl, hb⟩
  · have hl2 : ((l1.length : Int) != (l2.length : Int)) = true := by simp; omega
    have hne : decide (l1 = l2) = false := decide_eq_false (fun h => hl (by rw [h]))
    rw [hne]
    clear hne hl
    go_enter Try.func81, Try.ntmps81
    go_wp2_with fail
    go_ret
    exact ⟨rfl, Below.refl _ _⟩

theorem sameN_plain (l1 l2 : List (Int × Int)) (A1 A2 : Option Addr) (c1 c2 : Nat) (w : World) (h1 : Reads w A1 (pcells l1)) (h2 : Reads w A2 (pcells l2)) (hc1 : l1.length ≤ c1) (hc2 : l2.length ≤ c2) (hm1 : l1.length ≤ 4611686018427387903) (hm2 : l2.length ≤ 4611686018427387903) :
    Calls Try.prog 54 #[.slice A1 l1.length c1, .slice A2 l2.length c2] w fun e w' => e = .returned (.bool (decide (l1 = l2))) ∧ Below w.heap.size w w' := by
  have HS := sameN l1 l2 A1 A2 c1 c2 w h1 h2 hc1 hc2 hm1 hm2
  generalize decide (l1 = l2) = d at *
  clear h1 h2
  go_enter Try.func54, Try.ntmps54
  go_wp2_with (go_at_call 81; refine HS.mono ?_; rintro e w1 ⟨rfl, hb1⟩)
  go_ret
  exact ⟨rfl, hb1⟩

set_option maxHeartbeats 2000000 in
theorem ownN (l : List (Int × Int)) (f1 f2 : Int) (A : Option Addr) (c : Nat) (w : World) (hr : Reads w A (pcells l)) (hc : l.length ≤ c) (hm : l.length ≤ 1000000) :
    Calls Try.prog 53 #[.slice A l.length c, .agg #[.int .i64 f1, .int .i64 f2]] w (OwnP 39 pcells l (f1, f2) w) := by
  obtain ⟨i0, hi0, hz0, hs0, hb0⟩ := info_parts (EI_ent).hinfo
  have hmk : ∀ w0 : World, (Instr.makeSlice 34 (.int .i64 0) (.int .i64 ((l.length : Int) + 3))).run Try.prog w0 = .ok (.slice (some ⟨w0.heap.size, 0, none⟩) 0 (l.length + 3)) (w0.alloc (.cells (pcells (List.replicate (l.length + 3) (0, 0))).toArray 39)) := fun w0 => by
    have h := run_make (P := Try.prog) w0 34 39 i0 (.agg #[.int .i64 0, .int .i64 0]) (EI_ent).ht hi0 hz0 .i64 .i64 0 ((l.length : Int) + 3) (by omega) (by omega) (by rw [hb0]; omega) (by omega)
    rw [h, hs0, show ((l.length : Int) + 3).toNat = l.length + 3 by omega, ← madeP]
    try rfl
  have HMK := Lib.hid hmk
  clear hmk
  go_enter Try.func53, Try.ntmps53
  have hmk := HMK.out
  go_upto_region 2 with fail
  clear hmk HMK hi0 hz0 hs0 hb0
  generalize hW : (w.alloc (Obj.cells #[Value.int .i64 f1, Value.int .i64 f2] 39)).alloc (Obj.cells (pcells (List.replicate (l.length + 3) (0, 0))).toArray 39) = W
  have hbW : Below w.heap.size w W := by rw [← hW]; (repeat (first | with_reducible exact Below.refl _ _ | with_reducible assumption | with_reducible refine below_drewN0 ?_ _ | with_reducible refine Below.drew ?_ | with_reducible refine Below.alloc ?_ ?_ _ | with_reducible refine Below.setCell ?_ ?_ _ | go_size | exact Below.size (by assumption)))
  have hF : W.heap[w.heap.size]? = some (.cells #[Value.int .i64 f1, Value.int .i64 f2] 39 (0, 0)) := by rw [← hW]; exact heap_old (heap_alloc_new w _)
  have hG : W.heap[w.heap.size + 1]? = some (.cells (pcells (List.replicate (l.length + 3) (0, 0))).toArray 39 (0, 0)) := by
    rw [← hW]
    have h := heap_alloc_new (w.alloc (Obj.cells #[Value.int .i64 f1, Value.int .i64 f2] 39)) (Obj.cells (pcells (List.replicate (l.length + 3) (0, 0))).toArray 39)
    rwa [World.size_alloc] at h
  have hrW := hr.below hbW
  have HF := Lib.hid hF
  have HG := Lib.hid hG
  clear hW hF hG hr
  have hll : (pcells l).length = l.length * 2 := by simp [pcells_length]; try omega
  have HLL := Lib.hid hll
  clear hll
  have i1 : (l.length : Int) + 3 ≤ ((l.length + 3 : Nat) : Int) := by omega
  have i2 : (0 : Int) ≤ (l.length : Int) + 3 := by omega
  have i3 : ((l.length : Int) + 3).toNat = l.length + 3 := by omega
  go_upto_region 4 with (first
    | (at_builtin; go_loud (
       refine wpList_room EI_ent rfl (.tmp 12) (.tmp 13) rfl (w.heap.size + 1) (pcells (List.replicate (l.length + 3) (0, 0))) 0 (l.length + 3) rfl HG.out ?_ A l.length c (pcells l) rfl hrW HLL.out (pcells_one l) ?_ ?_
       · simp [pcells_length]; try omega
       · omega
       intro w2 hG2 hg2
       have hb2 : Below w.heap.size w w2 := hbW.grown hg2 hbW.size (fun k hk => by cases hk; omega)
       have hF2 := Lib.hid ((hg2.block w.heap.size (heap_lt0 HF.out) (by simp)).trans HF.out)
       have HG2 : Hid (w2.heap[w.heap.size + 1]? = some (.cells (pcells (l ++ (List.replicate 0 (f1, f2) ++ List.replicate (3 - 0) (0, 0)))).toArray 39 (0, 0))) := by
         unfold Hid
         rw [hG2]
         simp only [Nat.zero_mul, List.take_zero, List.nil_append, Nat.zero_add, List.replicate_zero]
         rw [pcells_drop0, List.drop_replicate, show l.length + 3 - l.length = 3 by omega, pcells_append]
       clear hG2)))
  go_wp2_with fail
  clear hrW hbW
  go_loopw [7] (fun i wr => ∃ j : Nat, j ≤ 3 ∧ i = .int .i64 ((l.length + j : Nat) : Int) ∧ Hid (wr.heap[w.heap.size]? = some (.cells #[Value.int .i64 f1, Value.int .i64 f2] 39 (0, 0))) ∧ Hid (wr.heap[w.heap.size + 1]? = some (.cells (pcells (l ++ (List.replicate j (f1, f2) ++ List.replicate (3 - j) (0, 0)))).toArray 39 (0, 0))) ∧ Below w.heap.size w wr) (fun i _ => l.length + 3 - (intOf i).toNat)
  case atStart => exact ⟨0, by omega, rfl, hF2, HG2, hb2⟩
  case round =>
    clear hF2 HG2 hb2 hg2
    obtain ⟨j, hj, rfl, hF, hG, hb⟩ := hrel
    by_cases hlt : j < 3
    · have hfc := fun i v => blkc0 hF.out i v
      have hlF := heap_lt0 hF.out
      have hlG := heap_lt0 hG.out
      (have hx0 := hfc 0 _ rfl
       have hx1 := hfc 1 _ rfl
       have hpg := pcells_get _ _ _ (fill_get l (f1, f2) ((0 : Int), (0 : Int)) j hlt)
       rw [Nat.mul_comm] at hpg
       have hy0 := blkc0 hG.out _ _ (List.getElem?_toArray.trans hpg.1)
       have hy1 := blkc0 hG.out _ _ (List.getElem?_toArray.trans hpg.2)
       have hz0 := blkf0 hG.out ((l.length + j) * 2)
       have hz1 := blkf0 hG.out ((l.length + j) * 2 + 1)
       have j1 : ((l.length + j : Nat) : Int) < ((l.length + 3 : Nat) : Int) := by omega
       have j2 : l.length + j < l.length + 3 := by omega
       clear hpg hfc
       go_wp2_with fail)
      go_roundw
      case rel =>
        refine ⟨j + 1, by omega, by go_num, ?_, ?_, by (repeat (first | with_reducible exact Below.refl _ _ | with_reducible assumption | with_reducible refine below_drewN0 ?_ _ | with_reducible refine Below.drew ?_ | with_reducible refine Below.alloc ?_ ?_ _ | with_reducible refine Below.setCell ?_ ?_ _ | go_size | exact Below.size (by assumption)))⟩
        · exact heap_far (heap_far hF.out (by dsimp only; omega) _) (by dsimp only; omega) _
        · (have h9 := blk_put (blk_put hG.out ((l.length + j) * 2) (.int .i64 f1)) ((l.length + j) * 2 + 1) (.int .i64 f2)
           have h8 := fill_get l (f1, f2) ((0 : Int), (0 : Int)) j hlt
           rw [pcells_set0 _ _ _ _ f1 h8, pcells_set1 _ _ f1 0 f2 (by rw [List.getElem?_set_self (List.getElem?_eq_some_iff.1 h8).1]), List.set_set, fill_step _ _ _ _ hlt] at h9
           exact h9)
      case measure => simp [intOf]; omega
    · obtain rfl : j = 3 := by omega
      go_wp2_with fail
      go_ret
      refine ⟨_, rfl, by omega, ?_, hb⟩
      have h9 := hG.out
      simpa using h9

set_option maxHeartbeats 2000000 in
theorem keptN (l : List (Int × Int)) (f1 f2 : Int) (g : Nat) (A : Option Addr) (c : Nat) (w : World) (hr : Reads w A (pcells l)) (hc : l.length ≤ c) (hm : l.length ≤ 1000000) (hG : w.heap[g]? = some (.cells (pcells (l ++ List.replicate 3 (f1, f2))).toArray 39 (0, 0))) :
    Calls Try.prog 56 #[.slice (some ⟨g, 0, none⟩) l.length (l.length + 3), .slice A l.length c, .agg #[.int .i64 f1, .int .i64 f2]] w fun e w' => e = .returned (.bool true) ∧ Below w.heap.size w w' := by
  have hrg : Reads w (some ⟨g, 0, none⟩) (pcells l) := by
    have := reads_blk hG
    rw [pcells_append] at this
    exact this.front
  have hlg := heap_lt0 hG
  have HP := fun W hR1 hR2 => sameN_plain l l (some ⟨g, 0, none⟩) A (l.length + 3) c W hR1 hR2 (by omega) hc (by omega) (by omega)
  simp only [decide_true] at HP
  have HG := Lib.hid hG
  clear hG
  have i0 : decide (((l.length + 3 : Nat) : Int) < (l.length : Int) + 3) = false := decide_eq_false (by omega)
  have i1 : (l.length : Int) + 3 ≤ ((l.length + 3 : Nat) : Int) := by omega
  have i2 : (0 : Int) ≤ (l.length : Int) + 3 := by omega
  have i3 : ((l.length : Int) + 3).toNat = l.length + 3 := by omega
  go_enter Try.func56, Try.ntmps56
  go_wp2_with (first
    | (go_at_call 54; refine (HP _ (hrg.below ?_) (hr.below ?_)).mono ?_; (repeat (first | with_reducible exact Below.refl _ _ | with_reducible assumption | with_reducible refine below_drewN0 ?_ _ | with_reducible refine Below.drew ?_ | with_reducible refine Below.alloc ?_ ?_ _ | with_reducible refine Below.setCell ?_ ?_ _ | go_size | exact Below.size (by assumption))); (repeat (first | with_reducible exact Below.refl _ _ | with_reducible assumption | with_reducible refine below_drewN0 ?_ _ | with_reducible refine Below.drew ?_ | with_reducible refine Below.alloc ?_ ?_ _ | with_reducible refine Below.setCell ?_ ?_ _ | go_size | exact Below.size (by assumption))); rintro e w1 ⟨rfl, hb1⟩
       have hF := Lib.hid ((hb1.block w.heap.size (by simp)).trans (heap_alloc_new w (Obj.cells #[Value.int .i64 f1, Value.int .i64 f2] 39)))
       have hG1 := Lib.hid ((hb1.block g (by simp; omega)).trans (heap_old HG.out))
       have hbw : Below w.heap.size w w1 := Below.trans (by (repeat (first | with_reducible exact Below.refl _ _ | with_reducible assumption | with_reducible refine below_drewN0 ?_ _ | with_reducible refine Below.drew ?_ | with_reducible refine Below.alloc ?_ ?_ _ | with_reducible refine Below.setCell ?_ ?_ _ | go_size | exact Below.size (by assumption)))) (hb1.mono (by simp))
       clear hb1))
  go_loopw [8] (fun i wr => ∃ j : Nat, j ≤ 3 ∧ i = .int .i64 ((l.length + j : Nat) : Int) ∧ Hid (Below w1.heap.size w1 wr)) (fun i _ => l.length + 3 - (intOf i).toNat)
  case atStart => exact ⟨0, by omega, rfl, Below.refl _ _⟩
  case round =>
    obtain ⟨j, hj, rfl, hb⟩ := hrel
    have hF' := (hb.out.block w.heap.size (heap_lt0 hF.out)).trans hF.out
    have hG' := (hb.out.block g (heap_lt0 hG1.out)).trans hG1.out
    by_cases hlt : j < 3
    · obtain ⟨x0, x1, _, _, _⟩ := blk2 hF'
      have hpg := pcells_get _ _ _ (kept_get l (f1, f2) j hlt)
      rw [Nat.mul_comm] at hpg
      have hy0 := blkc0 hG' _ _ (List.getElem?_toArray.trans hpg.1)
      have hy1 := blkc0 hG' _ _ (List.getElem?_toArray.trans hpg.2)
      have j1 : ((l.length + j : Nat) : Int) < ((l.length + 3 : Nat) : Int) := by omega
      have j2 : l.length + j < l.length + 3 := by omega
      clear hpg hF' hG'
      go_wp2_with fail
      go_quiet (fail)
      go_wp2_with fail
      go_roundw
      case rel => exact ⟨j + 1, by omega, by go_num, hb.out.trans (by (repeat (first | with_reducible exact Below.refl _ _ | with_reducible assumption | with_reducible refine below_drewN0 ?_ _ | with_reducible refine Below.drew ?_ | with_reducible refine Below.alloc ?_ ?_ _ | with_reducible refine Below.setCell ?_ ?_ _ | go_size | exact Below.size (by assumption))))⟩
      case measure => simp [intOf]; omega
    · obtain rfl : j = 3 := by omega
      clear hF' hG'
      go_wp2_with fail
      go_ret
      exact ⟨rfl, hbw.trans (hb.out.mono hbw.size)⟩

def OwnPostN (B : Nat) (es : List (Int × Int)) (w : World) (e : Ending) (w' : World) : Prop :=
  ∃ v, e = .returned v ∧ w'.ownsRow B 39 2 v es.length (pcells es) ∧ Below B w w'

theorem cloneN (es : List (Int × Int)) (A : Option Addr) (c : Nat) (w : World) (hr : Reads w A (pcells es)) (hc : es.length ≤ c) (hm : es.length ≤ 1000000) :
    Calls Try.prog 83 #[.slice A es.length c] w (OwnPostN w.heap.size es w) := by
  cases A with
  | none =>
    have h0 : es = [] := by
      rcases hr with h | ⟨b, o, h, _⟩
      · have := pcells_length es; rw [h] at this; simp at this; exact List.eq_nil_of_length_eq_zero (by omega)
      · cases h
    subst h0
    have hnl : ∀ w0 : World, (binOp .eql 34 (.slice none 0 c) (.slice none 0 0)).run Try.prog w0 = .ok (.bool true) w0 := fun w0 => by
      rw [Lib.run_eql_slice_nil w0 34 39 _ _ _ _ _ Try.underlying34]; rfl
    simp only [List.length_nil]
    go_enter Try.func83, Try.ntmps83
    go_wp2_with fail
    go_ret
    exact ⟨_, rfl, own_nil0 _ _ _ _, Below.refl _ _⟩
  | some ad =>
    have hpl := Lib.hid (pcells_length es)
    have hnl : ∀ w0 : World, (binOp .eql 34 (.slice (some ad) es.length c) (.slice none 0 0)).run Try.prog w0 = .ok (.bool false) w0 := fun w0 => by
      rw [Lib.run_eql_slice_nil w0 34 39 _ _ _ _ _ Try.underlying34]; rfl
    go_enter Try.func83, Try.ntmps83
    go_wp2_with (first
      | (at_builtin; go_loud (
         refine wpList_app EI_ent rfl (.tmp 5) (.tmp 6) rfl w.heap.size (.slice (some ⟨w.heap.size, 0, none⟩) 0 0) 0 [] rfl ?_ (some ad) es.length c (pcells es) rfl ?_ ?_ (pcells_one es) ?_ ?_ ?_
         · exact own_shut (cur := []) (Nat.le_refl _) (heap_alloc_new w _) (Nat.le_refl _) (by decide) (by simp) (by simp)
         · exact hr.below (by (repeat (first | with_reducible exact Below.refl _ _ | with_reducible assumption | with_reducible refine below_drewN0 ?_ _ | with_reducible refine Below.drew ?_ | with_reducible refine Below.alloc ?_ ?_ _ | with_reducible refine Below.setCell ?_ ?_ _ | go_size | exact Below.size (by assumption))))
         · rw [hpl.out]; omega
         · omega
         · go_size
         intro v1 w1 hown1 hg1 hat1
         have hb1 : Below w.heap.size w w1 := below_app (by (repeat (first | with_reducible exact Below.refl _ _ | with_reducible assumption | with_reducible refine below_drewN0 ?_ _ | with_reducible refine Below.drew ?_ | with_reducible refine Below.alloc ?_ ?_ _ | with_reducible refine Below.setCell ?_ ?_ _ | go_size | exact Below.size (by assumption)))) hg1 (by go_size) (fun g hg => by simp [Value.ownBlock] at hg; omega)
         obtain ⟨A1, c1, rfl, hc1, hr1⟩ := own_reads0 hown1
         simp only [Nat.zero_add, List.nil_append] at hown1)))
    go_ret
    exact ⟨_, rfl, hown1, hb1⟩

end Go.Proofs.Ytglhdoibglafbaa
