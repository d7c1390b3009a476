/- The words of the cut: what they tell of the program (for a row's closed facts). -/
import Derived.Test.YtglhdoibglafbaaChecked
import Derived.Test.YtglhdoibglafbaaRows
import Derived.WalkKit
import Derived.ProofKit
import Derived.Test.YtglhdoibglafbaaU10
import Derived.Deep.RegionHeld3
namespace Go.Proofs.Ytglhdoibglafbaa
open Go Go.RowKit
set_option maxRecDepth 100000
set_option linter.unusedVariables false
set_option linter.unusedSimpArgs false

theorem cutWords : Try.pinned.checked.prog.initOrder.toList = ([104, 97, 114, 110, 101, 115, 115, 32, 98, 101, 101, 99, 55, 102, 97, 99, 100, 97, 55, 97, 55, 54, 49, 102, 102, 52, 48, 48, 56, 101, 52, 56, 57, 50, 53, 48, 102, 102, 100, 55, 50, 51, 54, 49, 50, 49, 53, 54, 99, 55, 48, 101, 99, 50, 54, 54, 102, 98, 55, 54, 50, 100, 99, 50, 52, 99, 55, 52, 98, 100, 54, 102, 32, 99, 117, 116, 32, 97, 116, 32, 103, 97, 114, 108, 97, 110, 100, 47, 103, 97, 114, 108, 97, 110, 100, 108, 97, 119, 50, 52, 46, 71, 97, 100, 103, 101, 116, 76, 97, 114, 103, 101, 32, 103, 97, 114, 108, 97, 110, 100, 47, 103, 97, 114, 108, 97, 110, 100, 108, 97, 119, 48, 55, 46, 81, 117, 101, 117, 101, 84, 117, 114, 110, 115, 32, 103, 97, 114, 108, 97, 110, 100, 47, 103, 97, 114, 108, 97, 110, 100, 108, 97, 119, 48, 50, 46, 71, 114, 97, 112, 104, 77, 97, 107, 101, 115, 32, 103, 97, 114, 108, 97, 110, 100, 47, 103, 97, 114, 108, 97, 110, 100, 108, 97, 119, 48, 50, 46, 71, 114, 97, 112, 104, 84, 101, 108, 108, 115, 32, 103, 97, 114, 108, 97, 110, 100, 47, 103, 97, 114, 108, 97, 110, 100, 108, 97, 119, 48, 50, 46, 71, 114, 97, 112, 104, 68, 101, 103, 114, 101, 101, 115, 32, 103, 97, 114, 108, 97, 110, 100, 47, 103, 97, 114, 108, 97, 110, 100, 108, 97, 119, 50, 52, 46, 71, 97, 100, 103, 101, 116, 84, 101, 108, 108, 115, 32, 103, 97, 114, 108, 97, 110, 100, 47, 103, 97, 114, 108, 97, 110, 100, 108, 97, 119, 50, 52, 46, 71, 97, 100, 103, 101, 116, 80, 108, 97, 99, 101, 115, 32, 103, 97, 114, 108, 97, 110, 100, 47, 103, 97, 114, 108, 97, 110, 100, 108, 97, 119, 48, 55, 46, 81, 117, 101, 117, 101, 83, 111, 114, 116, 115, 32, 103, 97, 114, 108, 97, 110, 100, 47, 103, 97, 114, 108, 97, 110, 100, 108, 97, 119, 48, 50, 46, 71, 114, 97, 112, 104, 76, 105, 109, 105, 116, 115, 32, 103, 97, 114, 108, 97, 110, 100, 47, 103, 97, 114, 108, 97, 110, 100, 108, 97, 119, 48, 50, 46, 71, 114, 97, 112, 104, 67, 104, 97, 110, 103, 101, 115, 32, 103, 97, 114, 108, 97, 110, 100, 47, 103, 97, 114, 108, 97, 110, 100, 108, 97, 119, 48, 50, 46, 71, 114, 97, 112, 104, 87, 114, 111, 110, 103, 32, 103, 97, 114, 108, 97, 110, 100, 47, 103, 97, 114, 108, 97, 110, 100, 108, 97, 119, 48, 50, 46, 71, 114, 97, 112, 104, 66, 97, 99, 107] : List Nat).map Char.ofNat := by
  have h : Try.pinned.checked.prog.initOrder = String.ofList (([104, 97, 114, 110, 101, 115, 115, 32, 98, 101, 101, 99, 55, 102, 97, 99, 100, 97, 55, 97, 55, 54, 49, 102, 102, 52, 48, 48, 56, 101, 52, 56, 57, 50, 53, 48, 102, 102, 100, 55, 50, 51, 54, 49, 50, 49, 53, 54, 99, 55, 48, 101, 99, 50, 54, 54, 102, 98, 55, 54, 50, 100, 99, 50, 52, 99, 55, 52, 98, 100, 54, 102, 32, 99, 117, 116, 32, 97, 116, 32, 103, 97, 114, 108, 97, 110, 100, 47, 103, 97, 114, 108, 97, 110, 100, 108, 97, 119, 50, 52, 46, 71, 97, 100, 103, 101, 116, 76, 97, 114, 103, 101, 32, 103, 97, 114, 108, 97, 110, 100, 47, 103, 97, 114, 108, 97, 110, 100, 108, 97, 119, 48, 55, 46, 81, 117, 101, 117, 101, 84, 117, 114, 110, 115, 32, 103, 97, 114, 108, 97, 110, 100, 47, 103, 97, 114, 108, 97, 110, 100, 108, 97, 119, 48, 50, 46, 71, 114, 97, 112, 104, 77, 97, 107, 101, 115, 32, 103, 97, 114, 108, 97, 110, 100, 47, 103, 97, 114, 108, 97, 110, 100, 108, 97, 119, 48, 50, 46, 71, 114, 97, 112, 104, 84, 101, 108, 108, 115, 32, 103, 97, 114, 108, 97, 110, 100, 47, 103, 97, 114, 108, 97, 110, 100, 108, 97, 119, 48, 50, 46, 71, 114, 97, 112, 104, 68, 101, 103, 114, 101, 101, 115, 32, 103, 97, 114, 108, 97, 110, 100, 47, 103, 97, 114, 108, 97, 110, 100, 108, 97, 119, 50, 52, 46, 71, 97, 100, 103, 101, 116, 84, 101, 108, 108, 115, 32, 103, 97, 114, 108, 97, 110, 100, 47, 103, 97, 114, 108, 97, 110, 100, 108, 97, 119, 50, 52, 46, 71, 97, 100, 103, 101, 116, 80, 108, 97, 99, 101, 115, 32, 103, 97, 114, 108, 97, 110, 100, 47, 103, 97, 114, 108, 97, 110, 100, 108, 97, 119, 48, 55, 46, 81, 117, 101, 117, 101, 83, 111, 114, 116, 115, 32, 103, 97, 114, 108, 97, 110, 100, 47, 103, 97, 114, 108, 97, 110, 100, 108, 97, 119, 48, 50, 46, 71, 114, 97, 112, 104, 76, 105, 109, 105, 116, 115, 32, 103, 97, 114, 108, 97, 110, 100, 47, 103, 97, 114, 108, 97, 110, 100, 108, 97, 119, 48, 50, 46, 71, 114, 97, 112, 104, 67, 104, 97, 110, 103, 101, 115, 32, 103, 97, 114, 108, 97, 110, 100, 47, 103, 97, 114, 108, 97, 110, 100, 108, 97, 119, 48, 50, 46, 71, 114, 97, 112, 104, 87, 114, 111, 110, 103, 32, 103, 97, 114, 108, 97, 110, 100, 47, 103, 97, 114, 108, 97, 110, 100, 108, 97, 119, 48, 50, 46, 71, 114, 97, 112, 104, 66, 97, 99, 107] : List Nat).map Char.ofNat) := by kernel_rfl
  rw [h, String.toList_ofList]
theorem cutSigns : behindMainWord (wordsSigns Try.pinned.checked.prog.initOrder.toList) = ([[99, 117, 116], [97, 116], [103, 97, 114, 108, 97, 110, 100, 47, 103, 97, 114, 108, 97, 110, 100, 108, 97, 119, 50, 52, 46, 71, 97, 100, 103, 101, 116, 76, 97, 114, 103, 101], [103, 97, 114, 108, 97, 110, 100, 47, 103, 97, 114, 108, 97, 110, 100, 108, 97, 119, 48, 55, 46, 81, 117, 101, 117, 101, 84, 117, 114, 110, 115], [103, 97, 114, 108, 97, 110, 100, 47, 103, 97, 114, 108, 97, 110, 100, 108, 97, 119, 48, 50, 46, 71, 114, 97, 112, 104, 77, 97, 107, 101, 115], [103, 97, 114, 108, 97, 110, 100, 47, 103, 97, 114, 108, 97, 110, 100, 108, 97, 119, 48, 50, 46, 71, 114, 97, 112, 104, 84, 101, 108, 108, 115], [103, 97, 114, 108, 97, 110, 100, 47, 103, 97, 114, 108, 97, 110, 100, 108, 97, 119, 48, 50, 46, 71, 114, 97, 112, 104, 68, 101, 103, 114, 101, 101, 115], [103, 97, 114, 108, 97, 110, 100, 47, 103, 97, 114, 108, 97, 110, 100, 108, 97, 119, 50, 52, 46, 71, 97, 100, 103, 101, 116, 84, 101, 108, 108, 115], [103, 97, 114, 108, 97, 110, 100, 47, 103, 97, 114, 108, 97, 110, 100, 108, 97, 119, 50, 52, 46, 71, 97, 100, 103, 101, 116, 80, 108, 97, 99, 101, 115], [103, 97, 114, 108, 97, 110, 100, 47, 103, 97, 114, 108, 97, 110, 100, 108, 97, 119, 48, 55, 46, 81, 117, 101, 117, 101, 83, 111, 114, 116, 115], [103, 97, 114, 108, 97, 110, 100, 47, 103, 97, 114, 108, 97, 110, 100, 108, 97, 119, 48, 50, 46, 71, 114, 97, 112, 104, 76, 105, 109, 105, 116, 115], [103, 97, 114, 108, 97, 110, 100, 47, 103, 97, 114, 108, 97, 110, 100, 108, 97, 119, 48, 50, 46, 71, 114, 97, 112, 104, 67, 104, 97, 110, 103, 101, 115], [103, 97, 114, 108, 97, 110, 100, 47, 103, 97, 114, 108, 97, 110, 100, 108, 97, 119, 48, 50, 46, 71, 114, 97, 112, 104, 87, 114, 111, 110, 103], [103, 97, 114, 108, 97, 110, 100, 47, 103, 97, 114, 108, 97, 110, 100, 108, 97, 119, 48, 50, 46, 71, 114, 97, 112, 104, 66, 97, 99, 107]] : List (List Nat)).map (fun l => l.map Char.ofNat) := by
  rw [cutWords]
  kernel_rfl
theorem make_cut : ∀ (P : Program) (rest : List (List Char)), behindMainWord (wordsSigns P.initOrder.toList) = "cut".toList :: rest → P.make = some .cut := by
  intro P rest h
  unfold Program.make
  rw [h]
  rfl
theorem strip_cut (rest : List (List Char)) : stripLifts liftWords ("cut".toList :: rest) = ([], "cut".toList :: rest) := rfl
theorem lifts_cut : ∀ (P : Program) (rest : List (List Char)), behindMainWord (wordsSigns P.initOrder.toList) = "cut".toList :: rest → P.liftsFinal = false := by
  intro P rest h
  unfold Program.liftsFinal Program.headLifts
  rw [h, strip_cut]
  rfl
theorem enter_cut : ∀ (P : Program) (rest : List (List Char)), behindMainWord (wordsSigns P.initOrder.toList) = "cut".toList :: rest → P.laysLater = false → P.bearsReflect = false → P.doorFits [] = true → P.mayEnter = true := by
  intro P rest h h1 h2 h3
  unfold Program.mayEnter
  rw [h]
  simp only [strip_cut, h1, h2, h3]
  rfl
theorem cut_make : Try.pinned.checked.prog.make = some .cut := make_cut _ _ cutSigns
theorem cut_lifts : Try.pinned.checked.prog.liftsFinal = false := lifts_cut _ _ cutSigns
theorem cut_enter : Try.pinned.checked.prog.mayEnter = true := enter_cut _ _ cutSigns (by kernel_rfl) (by kernel_rfl) (by kernel_rfl)
end Go.Proofs.Ytglhdoibglafbaa

/- Walk of partialInsertionSortCmpFunc at edges. -/
namespace Go.Proofs.Ytglhdoibglafbaa
open Go Go.RowKit
set_option maxRecDepth 100000
set_option linter.unusedVariables false
set_option linter.unusedSimpArgs false

theorem scanS_go {d : Array PE} {b i : Nat} (h : i < b) (hp : ltP d[i]! d[i - 1]! = false) : Sort.scanSorted ltP d b i = Sort.scanSorted ltP d b (i + 1) := by
  rw [Sort.scanSorted.eq_1, if_pos (by simp [h, hp])]
theorem scanS_stop {d : Array PE} {b i : Nat} (h : b ≤ i ∨ ltP d[i]! d[i - 1]! = true) : Sort.scanSorted ltP d b i = i := by
  rw [Sort.scanSorted.eq_1, if_neg]
  rcases h with h | h
  · simp; omega
  · simp [h]
theorem shiftD_go {d : Array PE} {j : Nat} (h : ltP d[j + 1]! d[j]! = true) : Sort.shiftDown ltP (j + 1) d = Sort.shiftDown ltP j (Sort.swp d (j + 1) j) := by
  rw [Sort.shiftDown, if_neg (by simp [h])]
theorem shiftD_stop {d : Array PE} {j : Nat} (h : ltP d[j + 1]! d[j]! = false) : Sort.shiftDown ltP (j + 1) d = d := by
  rw [Sort.shiftDown, if_pos (by simp [h])]
theorem shiftU_go {d : Array PE} {b j : Nat} (hj : j < b) (h : ltP d[j]! d[j - 1]! = true) : Sort.shiftUp ltP b j d = Sort.shiftUp ltP b (j + 1) (Sort.swp d j (j - 1)) := by
  rw [Sort.shiftUp.eq_1, if_pos hj, if_neg (by simp [h])]
theorem shiftU_stop {d : Array PE} {b j : Nat} (h : b ≤ j ∨ ltP d[j]! d[j - 1]! = false) : Sort.shiftUp ltP b j d = d := by
  rw [Sort.shiftUp.eq_1]
  by_cases hj : j < b
  · rw [if_pos hj]
    rcases h with h | h
    · omega
    · rw [if_pos (by simp [h])]
  · rw [if_neg hj]


set_option maxHeartbeats 8000000 in
theorem pins_any (w0 W : World) (g : Nat) (T : TypeId) (rest : List Value) (d : Array PE) (c a l : Nat) (hS : SR w0 g T rest d W) (hl : 12 < l) (hb : a + l ≤ d.size) (hm : d.size ≤ 1000000) :
    Calls Try.prog 112 #[.slice (some ⟨g, 0, none⟩) d.size c, .int .i64 a, .int .i64 ((a : Int) + (l : Int)), (Value.func (.func 68) #[.agg #[]] #[])] W fun e w' => ∃ bb : Bool, e = .returned (.bool bb) ∧ (Sort.partialInsertionSort ltP d a (a + l)).2 = bb ∧ SR w0 g T rest (Sort.partialInsertionSort ltP d a (a + l)).1 w' := by
  unfold Sort.partialInsertionSort
  have HS := Lib.hid hS
  clear hS
  obtain ⟨b, hbl, hbl2⟩ : ∃ b, b ≤ a + l ∧ a + l ≤ b := ⟨_, Nat.le_refl _, Nat.le_refl _⟩
  have hbe : a + l = b := by omega
  rw [hbe]
  clear hbe
  have w0' : IntKind.i64.wrap ((a : Int) + (l : Int) - (a : Int)) = (l : Int) := by rw [IntKind.wrap_i64]; omega
  go_enter Try.func112, Try.ntmps112
  go_wp2_with fail
  go_loopw [9, 10] (fun v9 v10 wx => ∃ (i s : Nat) (dk : Array PE), a + 1 ≤ i ∧ i ≤ b ∧ s ≤ 5 ∧ v9 = .int .i64 i ∧ v10 = .int .i64 s ∧ dk.size = d.size ∧ Hid (Sort.partialIns ltP a b (5 - s) i dk = Sort.partialIns ltP a b 5 (a + 1) d) ∧ Hid (SR w0 g T rest dk wx)) (fun _ v10 _ => 5 - (intOf v10).toNat)
  case atStart => exact ⟨a + 1, 0, d, Nat.le_refl _, by omega, by omega, by go_num, rfl, rfl, rfl, HS⟩
  case round =>
    clear HS
    obtain ⟨i, s, dk, hai, hib', hs5, rfl, rfl, hsz, hO, hS⟩ := hrel
    by_cases hs : s < 5
    · have sI : (s : Int) < 5 := by omega
      go_wp2_with fail
      go_loopw [9] (fun v wx => ∃ (i2 : Nat), i ≤ i2 ∧ i2 ≤ b ∧ v = .int .i64 i2 ∧ Hid (Sort.scanSorted ltP dk b i = Sort.scanSorted ltP dk b i2) ∧ Hid (SR w0 g T rest dk wx)) (fun v _ => b - (intOf v).toNat)
      case atStart => exact ⟨i, Nat.le_refl _, hib', rfl, rfl, hS⟩
      case round =>
        clear hS
        obtain ⟨i2, hi2, hi3, rfl, hU, hS⟩ := hrel
        go_upto_region 5 with fail
        go_cut [9, 36] (fun vi vb wc => ∃ bb : Bool, vi = .int .i64 i2 ∧ vb = .bool bb ∧ Hid ((bb = true → i2 < b ∧ ltP dk[i2]! dk[i2 - 1]! = false) ∧ (bb = false → b ≤ i2 ∨ ltP dk[i2]! dk[i2 - 1]! = true)) ∧ Hid (SR w0 g T rest dk wc))
        case first =>
          by_cases hij : i2 < b
          · obtain ⟨ip, rfl⟩ : ∃ p, i2 = p + 1 := ⟨i2 - 1, by omega⟩
            have g1 : decide (((ip + 1 : Nat) : Int) < (a : Int) + (l : Int)) = true := decide_eq_true (by omega)
            have g2 : decide ((ip : Int) + 1 < (a : Int) + (l : Int)) = true := decide_eq_true (by omega)
            have g3 : decide (ip + 1 < a + l) = true := decide_eq_true (by omega)
            (have : (0 : Int) ≤ ((ip + 1 : Nat) : Int) := by omega
             have : (((ip + 1 : Nat) : Int) : Int).toNat = ip + 1 := by omega
             have : (((ip + 1 : Nat) : Int) : Int) < (d.size : Int) := by omega
             have : IntKind.i64.wrap (((ip + 1 : Nat) : Int) : Int) = ((ip + 1 : Nat) : Int) := by rw [IntKind.wrap_i64]; omega)
            (have : (0 : Int) ≤ (ip : Int) + 1 := by omega
             have : ((ip : Int) + 1 : Int).toNat = ip + 1 := by omega
             have : ((ip : Int) + 1 : Int) < (d.size : Int) := by omega
             have : IntKind.i64.wrap ((ip : Int) + 1 : Int) = (ip : Int) + 1 := by rw [IntKind.wrap_i64]; omega)
            (have : (0 : Int) ≤ (ip : Int) := by omega
             have : ((ip : Int) : Int).toNat = ip := by omega
             have : ((ip : Int) : Int) < (d.size : Int) := by omega
             have : IntKind.i64.wrap ((ip : Int) : Int) = (ip : Int) := by rw [IntKind.wrap_i64]; omega)
            have w1 : IntKind.i64.wrap ((ip : Int) + 1 - 1) = (ip : Int) := by rw [IntKind.wrap_i64]; omega
            ((obtain ⟨x, hx⟩ : ∃ x : PE, x = dk[ip + 1]! := ⟨_, rfl⟩
              obtain ⟨y, hy⟩ : ∃ y : PE, y = dk[ip]! := ⟨_, rfl⟩
              have x0 := hS.out.cell0 (i := ip + 1) (by omega)
              have x1 := hS.out.cell1 (i := ip + 1) (by omega)
              have y0 := hS.out.cell0 (i := ip) (by omega)
              have y1 := hS.out.cell1 (i := ip) (by omega)
              rw [← hx] at x0 x1
              rw [← hy] at y0 y1
              have HX := Lib.hid hx
              have HY := Lib.hid hy
              clear hx hy)
             have HC := fun W => compareE x.1 x.2 y.1 y.2 W
             have hlt : Hid (ltP dk[ip + 1]! dk[ip]! = decide (cmpE x.1 x.2 y.1 y.2 < 0)) := by unfold Hid; rw [← HX.out, ← HY.out]; rfl
             have hgl := hS.out.lt
             have HK := Lib.hid (fun (W' : World) (h : Below wr.heap.size wr W') => (⟨(h.cell (p := ⟨g, (ip + 1) * 2, none⟩) hgl).trans x0, (h.cell (p := ⟨g, (ip + 1) * 2 + 1, none⟩) hgl).trans x1, (h.cell (p := ⟨g, (ip) * 2, none⟩) hgl).trans y0, (h.cell (p := ⟨g, (ip) * 2 + 1, none⟩) hgl).trans y1⟩ :
               W'.cell? ⟨g, (ip + 1) * 2, none⟩ = some (.int .i64 x.1) ∧ W'.cell? ⟨g, (ip + 1) * 2 + 1, none⟩ = some (.int .i64 x.2) ∧ W'.cell? ⟨g, (ip) * 2, none⟩ = some (.int .i64 y.1) ∧ W'.cell? ⟨g, (ip) * 2 + 1, none⟩ = some (.int .i64 y.2)))
             generalize cmpE x.1 x.2 y.1 y.2 = cp at HC hlt
             (try go_wp2_with fail)
             go_region_held3 (fun w' => w'.cell? ⟨g, (ip + 1) * 2, none⟩ = some (.int .i64 x.1) ∧ w'.cell? ⟨g, (ip + 1) * 2 + 1, none⟩ = some (.int .i64 x.2) ∧ w'.cell? ⟨g, (ip) * 2, none⟩ = some (.int .i64 y.1) ∧ w'.cell? ⟨g, (ip) * 2 + 1, none⟩ = some (.int .i64 y.2))
               (first | exact ⟨x0, x1, y0, y1⟩ | exact HK.out _ hbT | (refine HK.out _ ?_; (repeat (first | with_reducible exact Below.refl _ _ | with_reducible assumption | with_reducible refine below_drewN0 ?_ _ | with_reducible refine Below.drew ?_ | with_reducible refine Below.alloc ?_ ?_ _ | with_reducible refine Below.setCell ?_ ?_ _ | go_size | exact Below.size (by assumption))); done))
               (first | (go_at_call 68; go_loud (refine (HC _).mono ?_; rintro e w1 ⟨rfl, hbc⟩; have hbT : Below wr.heap.size wr w1 := Below.trans (by (repeat (first | with_reducible exact Below.refl _ _ | with_reducible assumption | with_reducible refine below_drewN0 ?_ _ | with_reducible refine Below.drew ?_ | with_reducible refine Below.alloc ?_ ?_ _ | with_reducible refine Below.setCell ?_ ?_ _ | go_size | exact Below.size (by assumption)))) (hbc.mono (by go_size)))))
             have hS1 := Lib.hid (hS.out.below hbT)
             clear HC HK x0 x1 y0 y1)
            have hP : ltP dk[ip + 1]! dk[ip + 1 - 1]! = decide (cp < 0) := hlt.out
            have HP := Lib.hid hP
            clear hP
            go_wp2_with fail
            go_meet
            exact ⟨!decide (cp < 0), rfl, rfl, ⟨fun h => ⟨hij, HP.out.trans (by simpa using h)⟩, fun h => .inr (HP.out.trans (by simpa using h))⟩, hS1⟩
          · have g1 : decide ((i2 : Int) < (a : Int) + (l : Int)) = false := decide_eq_false (by omega)
            have g2 : decide (i2 < a + l) = false := decide_eq_false (by omega)
            go_wp2_with fail
            go_quiet (fail)
            go_wp2_with fail
            go_meet
            exact ⟨false, rfl, rfl, ⟨fun h => (by cases h), fun _ => .inl (by omega)⟩, hS⟩
        case rest =>
          clear hS
          obtain ⟨bb, rfl, rfl, hBB, hS⟩ := hcut
          obtain ⟨wr, rfl⟩ : ∃ z, z = wc := ⟨_, rfl⟩
          cases bb
          · have hU := Lib.hid (hU.out.trans (scanS_stop (hBB.out.2 rfl)))
            clear hBB
            (have hU3 := hU.out
             clear hU
             obtain ⟨i0, rfl⟩ : ∃ z, z = i := ⟨_, rfl⟩
             obtain ⟨i, rfl⟩ : ∃ z, z = i2 := ⟨_, rfl⟩
             have HU3 := Lib.hid hU3
             clear hU3
             by_cases hib : i = b
             · have e1 : ((i : Int) == (a : Int) + (l : Int)) = true := by simp; omega
               have e2 : (i : Int) = (a : Int) + (l : Int) := by omega
               go_wp2_with fail
               go_ret
               refine ⟨true, rfl, ?_, ?_⟩
               · rw [← hO.out, show 5 - s = (4 - s) + 1 by omega, Sort.partialIns]; simp [HU3.out, hib]
               · rw [← hO.out, show 5 - s = (4 - s) + 1 by omega, Sort.partialIns]; simp [HU3.out, hib]; exact hS.out
             · have e1 : ((i : Int) == (a : Int) + (l : Int)) = false := by simp; omega
               have e2 : ¬ (i : Int) = (a : Int) + (l : Int) := by omega
               by_cases h50 : l < 50
               · have e3 : (l : Int) < 50 := by omega
                 go_wp2_with fail
                 go_ret
                 refine ⟨false, rfl, ?_, ?_⟩
                 · rw [← hO.out, show 5 - s = (4 - s) + 1 by omega, Sort.partialIns]; simp only [HU3.out]; rw [if_neg hib, if_pos (show b - a < 50 by omega)]
                 · rw [← hO.out, show 5 - s = (4 - s) + 1 by omega, Sort.partialIns]; simp only [HU3.out]; rw [if_neg hib, if_pos (show b - a < 50 by omega)]; exact hS.out
               · have e3 : ¬ (l : Int) < 50 := by omega
                 have hO1 : Hid (Sort.partialIns ltP a b (4 - s) i (if b - i ≥ 2 then Sort.shiftUp ltP b (i + 1) (if i - a ≥ 2 then Sort.shiftDown ltP (i - 1) (Sort.swp dk i (i - 1)) else Sort.swp dk i (i - 1)) else (if i - a ≥ 2 then Sort.shiftDown ltP (i - 1) (Sort.swp dk i (i - 1)) else Sort.swp dk i (i - 1))) = Sort.partialIns ltP a b 5 (a + 1) d) := by
                   unfold Hid
                   rw [← hO.out, show 5 - s = (4 - s) + 1 by omega, Sort.partialIns]
                   simp only [HU3.out]
                   rw [if_neg hib, if_neg (show ¬ b - a < 50 by omega)]
                 clear hO HU3
                 obtain ⟨ip, rfl⟩ : ∃ p, i = p + 1 := ⟨i - 1, by omega⟩
                 simp only [Nat.add_sub_cancel] at hO1
                 (have : (0 : Int) ≤ ((ip + 1 : Nat) : Int) := by omega
                  have : (((ip + 1 : Nat) : Int) : Int).toNat = ip + 1 := by omega
                  have : (((ip + 1 : Nat) : Int) : Int) < (d.size : Int) := by omega
                  have : IntKind.i64.wrap (((ip + 1 : Nat) : Int) : Int) = ((ip + 1 : Nat) : Int) := by rw [IntKind.wrap_i64]; omega)
                 (have : (0 : Int) ≤ (ip : Int) + 1 := by omega
                  have : ((ip : Int) + 1 : Int).toNat = ip + 1 := by omega
                  have : ((ip : Int) + 1 : Int) < (d.size : Int) := by omega
                  have : IntKind.i64.wrap ((ip : Int) + 1 : Int) = (ip : Int) + 1 := by rw [IntKind.wrap_i64]; omega)
                 (have : (0 : Int) ≤ (ip : Int) := by omega
                  have : ((ip : Int) : Int).toNat = ip := by omega
                  have : ((ip : Int) : Int) < (d.size : Int) := by omega
                  have : IntKind.i64.wrap ((ip : Int) : Int) = (ip : Int) := by rw [IntKind.wrap_i64]; omega)
                 have w1 : IntKind.i64.wrap ((ip : Int) + 1 - 1) = (ip : Int) := by rw [IntKind.wrap_i64]; omega
                 go_upto_region 11 with fail
                 ((obtain ⟨x, hx⟩ : ∃ x : PE, x = dk[ip + 1]! := ⟨_, rfl⟩
                   obtain ⟨y, hy⟩ : ∃ y : PE, y = dk[ip]! := ⟨_, rfl⟩
                   have x0 := hS.out.cell0 (i := ip + 1) (by omega)
                   have x1 := hS.out.cell1 (i := ip + 1) (by omega)
                   have y0 := hS.out.cell0 (i := ip) (by omega)
                   have y1 := hS.out.cell1 (i := ip) (by omega)
                   rw [← hx] at x0 x1
                   rw [← hy] at y0 y1
                   have HX := Lib.hid hx
                   have HY := Lib.hid hy
                   clear hx hy)
                  have z1 := hS.out.frozen ((ip + 1) * 2)
                  have z2 := hS.out.frozen ((ip + 1) * 2 + 1)
                  have z3 := hS.out.frozen ((ip) * 2)
                  have z4 := hS.out.frozen ((ip) * 2 + 1)
                  have hw1 := hS.out.swx (i := ip + 1) (j := ip) (by omega) (by omega) HX.out HY.out
                  have hw2 := hS.out.swx' (i := ip + 1) (j := ip) (by omega) (by omega) HX.out HY.out
                  have hA := (hS.out.put (i := ip + 1) (by omega) y).drew
                  have hB := (hS.out.put (i := ip) (by omega) x).drew
                  have a0 := hA.cell0 (i := ip) (by rw [Array.size_setIfInBounds]; omega)
                  have a1 := hA.cell1 (i := ip) (by rw [Array.size_setIfInBounds]; omega)
                  have a2 := hA.frozen ((ip) * 2)
                  have a3 := hA.frozen ((ip) * 2 + 1)
                  have b0 := hB.cell0 (i := ip + 1) (by rw [Array.size_setIfInBounds]; omega)
                  have b1 := hB.cell1 (i := ip + 1) (by rw [Array.size_setIfInBounds]; omega)
                  have b2 := hB.frozen ((ip + 1) * 2)
                  have b3 := hB.frozen ((ip + 1) * 2 + 1)
                  have hA' := hS.out.put (i := ip + 1) (by omega) y
                  have hB' := hS.out.put (i := ip) (by omega) x
                  have a4 := hA'.cell0 (i := ip) (by rw [Array.size_setIfInBounds]; omega)
                  have a5 := hA'.cell1 (i := ip) (by rw [Array.size_setIfInBounds]; omega)
                  have a6 := hA'.frozen ((ip) * 2)
                  have a7 := hA'.frozen ((ip) * 2 + 1)
                  have b4 := hB'.cell0 (i := ip + 1) (by rw [Array.size_setIfInBounds]; omega)
                  have b5 := hB'.cell1 (i := ip + 1) (by rw [Array.size_setIfInBounds]; omega)
                  have b6 := hB'.frozen ((ip + 1) * 2)
                  have b7 := hB'.frozen ((ip + 1) * 2 + 1)
                  clear hA hB hA' hB'
                  go_cut [9, 10] (fun v9 v10 wc => (v9 = Value.int .i64 ((ip + 1 : Nat) : Int) ∧ v10 = Value.int .i64 (s : Int)) ∧ Hid (SR w0 g T rest (Sort.swp dk (ip + 1) (ip)) wc))
                  case first =>
                    go_region
                    all_goals
                      go_wp2_with fail
                      go_meet
                      refine ⟨by first | rfl | exact ⟨rfl, rfl⟩ | exact ⟨rfl, rfl, rfl⟩, ?_⟩
                      unfold Hid
                      first | (with_reducible exact hw1.drew) | (with_reducible exact hw2.drew) | (with_reducible exact hw1) | (with_reducible exact hw2)
                  clear a0 a1 a2 a3 b0 b1 b2 b3 a4 a5 a6 a7 b4 b5 b6 b7 hw1 hw2 z1 z2 z3 z4 x0 x1 y0 y1 HX HY)
                 case rest =>
                   obtain ⟨⟨rfl, rfl⟩, hS2⟩ := hcut
                   have hsz2 : (Sort.swp dk (ip + 1) ip).size = d.size := by rw [Sort.size_swp]; exact hsz
                   clear hS
                   generalize Sort.swp dk (ip + 1) ip = dk at *
                   have hS := hS2
                   clear hS2
                   obtain ⟨wr, rfl⟩ : ∃ z, z = wc := ⟨_, rfl⟩
                   (go_upto_if 65 with fail
                    go_cut [9, 10] (fun v9 v10 wc => ∃ d2, v9 = Value.int .i64 ((ip + 1 : Nat) : Int) ∧ v10 = Value.int .i64 (s : Int) ∧ d2.size = d.size ∧ Hid (d2 = if ip + 1 - a ≥ 2 then Sort.shiftDown ltP ip dk else dk) ∧ Hid (SR w0 g T rest d2 wc))
                    case first =>
                      clear hO1
                      by_cases hia : a + 2 ≤ ip + 1
                      · have e4 : (2 : Int) ≤ ((ip + 1 : Nat) : Int) - (a : Int) := by omega
                        have e5 : (2 : Int) ≤ (ip : Int) + 1 - (a : Int) := by omega
                        go_wp2_with fail
                        go_loopw [11] (fun v11 wx => ∃ (j : Nat) (dj : Array PE), j ≤ ip ∧ v11 = .int .i64 j ∧ dj.size = d.size ∧ Hid (Sort.shiftDown ltP j dj = Sort.shiftDown ltP ip dk) ∧ Hid (SR w0 g T rest dj wx)) (fun v11 _ => (intOf v11).toNat)
                        case atStart => exact ⟨ip, dk, Nat.le_refl _, by go_num, hsz2, rfl, hS⟩
                        case round =>
                          clear hS
                          obtain ⟨j, dj, hj, rfl, hsj, hI, hS⟩ := hrel
                          cases j with
                          | zero =>
                            go_wp2_with fail
                            go_meet
                            exact ⟨dj, rfl, rfl, hsj, by unfold Hid; rw [if_pos (by omega), ← hI.out]; rfl, hS⟩
                          | succ jp =>
                            obtain ⟨dk', rfl⟩ : ∃ z, z = dk := ⟨_, rfl⟩
                            obtain ⟨dk, rfl⟩ : ∃ z, z = dj := ⟨_, rfl⟩
                            (have : (0 : Int) ≤ ((jp + 1 : Nat) : Int) := by omega
                             have : (((jp + 1 : Nat) : Int) : Int).toNat = jp + 1 := by omega
                             have : (((jp + 1 : Nat) : Int) : Int) < (d.size : Int) := by omega
                             have : IntKind.i64.wrap (((jp + 1 : Nat) : Int) : Int) = ((jp + 1 : Nat) : Int) := by rw [IntKind.wrap_i64]; omega)
                            (have : (0 : Int) ≤ (jp : Int) + 1 := by omega
                             have : ((jp : Int) + 1 : Int).toNat = jp + 1 := by omega
                             have : ((jp : Int) + 1 : Int) < (d.size : Int) := by omega
                             have : IntKind.i64.wrap ((jp : Int) + 1 : Int) = (jp : Int) + 1 := by rw [IntKind.wrap_i64]; omega)
                            (have : (0 : Int) ≤ (jp : Int) := by omega
                             have : ((jp : Int) : Int).toNat = jp := by omega
                             have : ((jp : Int) : Int) < (d.size : Int) := by omega
                             have : IntKind.i64.wrap ((jp : Int) : Int) = (jp : Int) := by rw [IntKind.wrap_i64]; omega)
                            have w1 : IntKind.i64.wrap ((jp : Int) + 1 - 1) = (jp : Int) := by rw [IntKind.wrap_i64]; omega
                            have e6 : (1 : Int) ≤ ((jp + 1 : Nat) : Int) := by omega
                            have e7 : (1 : Int) ≤ (jp : Int) + 1 := by omega
                            ((obtain ⟨x, hx⟩ : ∃ x : PE, x = dk[jp + 1]! := ⟨_, rfl⟩
                              obtain ⟨y, hy⟩ : ∃ y : PE, y = dk[jp]! := ⟨_, rfl⟩
                              have x0 := hS.out.cell0 (i := jp + 1) (by omega)
                              have x1 := hS.out.cell1 (i := jp + 1) (by omega)
                              have y0 := hS.out.cell0 (i := jp) (by omega)
                              have y1 := hS.out.cell1 (i := jp) (by omega)
                              rw [← hx] at x0 x1
                              rw [← hy] at y0 y1
                              have HX := Lib.hid hx
                              have HY := Lib.hid hy
                              clear hx hy)
                             have HC := fun W => compareE x.1 x.2 y.1 y.2 W
                             have hlt : Hid (ltP dk[jp + 1]! dk[jp]! = decide (cmpE x.1 x.2 y.1 y.2 < 0)) := by unfold Hid; rw [← HX.out, ← HY.out]; rfl
                             have hgl := hS.out.lt
                             have HK := Lib.hid (fun (W' : World) (h : Below wr.heap.size wr W') => (⟨(h.cell (p := ⟨g, (jp + 1) * 2, none⟩) hgl).trans x0, (h.cell (p := ⟨g, (jp + 1) * 2 + 1, none⟩) hgl).trans x1, (h.cell (p := ⟨g, (jp) * 2, none⟩) hgl).trans y0, (h.cell (p := ⟨g, (jp) * 2 + 1, none⟩) hgl).trans y1⟩ :
                               W'.cell? ⟨g, (jp + 1) * 2, none⟩ = some (.int .i64 x.1) ∧ W'.cell? ⟨g, (jp + 1) * 2 + 1, none⟩ = some (.int .i64 x.2) ∧ W'.cell? ⟨g, (jp) * 2, none⟩ = some (.int .i64 y.1) ∧ W'.cell? ⟨g, (jp) * 2 + 1, none⟩ = some (.int .i64 y.2)))
                             generalize cmpE x.1 x.2 y.1 y.2 = cp at HC hlt
                             (try go_wp2_with fail)
                             go_region_held3 (fun w' => w'.cell? ⟨g, (jp + 1) * 2, none⟩ = some (.int .i64 x.1) ∧ w'.cell? ⟨g, (jp + 1) * 2 + 1, none⟩ = some (.int .i64 x.2) ∧ w'.cell? ⟨g, (jp) * 2, none⟩ = some (.int .i64 y.1) ∧ w'.cell? ⟨g, (jp) * 2 + 1, none⟩ = some (.int .i64 y.2))
                               (first | exact ⟨x0, x1, y0, y1⟩ | exact HK.out _ hbT | (refine HK.out _ ?_; (repeat (first | with_reducible exact Below.refl _ _ | with_reducible assumption | with_reducible refine below_drewN0 ?_ _ | with_reducible refine Below.drew ?_ | with_reducible refine Below.alloc ?_ ?_ _ | with_reducible refine Below.setCell ?_ ?_ _ | go_size | exact Below.size (by assumption))); done))
                               (first | (go_at_call 68; go_loud (refine (HC _).mono ?_; rintro e w1 ⟨rfl, hbc⟩; have hbT : Below wr.heap.size wr w1 := Below.trans (by (repeat (first | with_reducible exact Below.refl _ _ | with_reducible assumption | with_reducible refine below_drewN0 ?_ _ | with_reducible refine Below.drew ?_ | with_reducible refine Below.alloc ?_ ?_ _ | with_reducible refine Below.setCell ?_ ?_ _ | go_size | exact Below.size (by assumption)))) (hbc.mono (by go_size)))))
                             have hS1 := Lib.hid (hS.out.below hbT)
                             clear HC HK x0 x1 y0 y1)
                            by_cases hcp : cp < 0
                            · have hlt2 := Lib.hid (shiftD_go (show ltP dk[jp + 1]! dk[jp]! = true by rw [hlt.out]; exact decide_eq_true hcp))
                              have n4 : (!decide (cp < 0)) = false := by simp [hcp]
                              rw [n4]
                              go_upto_region 17 with fail
                              clear hS
                              have hS := hS1
                              (have z1 := hS.out.frozen ((jp + 1) * 2)
                               have z2 := hS.out.frozen ((jp + 1) * 2 + 1)
                               have z3 := hS.out.frozen ((jp) * 2)
                               have z4 := hS.out.frozen ((jp) * 2 + 1)
                               have hw1 := hS.out.swx (i := jp + 1) (j := jp) (by omega) (by omega) HX.out HY.out
                               have hw2 := hS.out.swx' (i := jp + 1) (j := jp) (by omega) (by omega) HX.out HY.out
                               (try go_wp2_with fail)
                               go_region
                               all_goals
                                 go_wp2_with fail
                                 go_roundw
                                 case rel =>
                                   refine ⟨jp, Sort.swp dk (jp + 1) jp, by omega, by go_num, by rw [Sort.size_swp]; exact hsj, hlt2.out.symm.trans hI.out, ?_⟩
                                   unfold Hid
                                   first | (with_reducible exact hw1.drew) | (with_reducible exact hw2.drew) | (with_reducible exact hw1) | (with_reducible exact hw2)
                                 case measure => first | (simp [intOf]; done) | (simp [intOf]; omega))
                            · have hlt2 := Lib.hid (shiftD_stop (show ltP dk[jp + 1]! dk[jp]! = false by rw [hlt.out]; exact decide_eq_false hcp))
                              have n4 : (!decide (cp < 0)) = true := by simp [hcp]
                              rw [n4]
                              go_wp2_with fail
                              go_meet
                              exact ⟨dk, rfl, rfl, hsj, by unfold Hid; rw [if_pos (by omega), ← hI.out, hlt2.out], hS1⟩
                      · have e4 : ¬ (2 : Int) ≤ ((ip + 1 : Nat) : Int) - (a : Int) := by omega
                        have e5 : ¬ (2 : Int) ≤ (ip : Int) + 1 - (a : Int) := by omega
                        go_wp2_with fail
                        go_meet
                        exact ⟨dk, rfl, rfl, hsz2, by unfold Hid; rw [if_neg (by omega)], hS⟩
                    case rest =>
                      obtain ⟨d2, rfl, rfl, hsz3, hd2, hS3⟩ := hcut
                      have hO2 : Hid (Sort.partialIns ltP a b (4 - s) (ip + 1) (if b - (ip + 1) ≥ 2 then Sort.shiftUp ltP b (ip + 2) d2 else d2) = Sort.partialIns ltP a b 5 (a + 1) d) := by
                        unfold Hid; rw [hd2.out]; exact hO1.out
                      clear hO1 hd2 hsz2 hS
                      obtain ⟨dk', rfl⟩ : ∃ z, z = dk := ⟨_, rfl⟩
                      obtain ⟨dk, rfl⟩ : ∃ z, z = d2 := ⟨_, rfl⟩
                      obtain ⟨wr', rfl⟩ : ∃ z, z = wr := ⟨_, rfl⟩
                      obtain ⟨wr, rfl⟩ : ∃ z, z = wc := ⟨_, rfl⟩
                      have hS := hS3
                      clear hS3
                      (by_cases hbi : ip + 3 ≤ b
                       · have e4 : (2 : Int) ≤ (a : Int) + (l : Int) - ((ip + 1 : Nat) : Int) := by omega
                         have e5 : (2 : Int) ≤ (a : Int) + (l : Int) - ((ip : Int) + 1) := by omega
                         go_wp2_with fail
                         go_loopw [12] (fun v12 wx => ∃ (j : Nat) (dj : Array PE), ip + 2 ≤ j ∧ j ≤ b ∧ v12 = .int .i64 j ∧ dj.size = d.size ∧ Hid (Sort.shiftUp ltP b j dj = Sort.shiftUp ltP b (ip + 2) dk) ∧ Hid (SR w0 g T rest dj wx)) (fun v12 _ => b - (intOf v12).toNat)
                         case atStart => exact ⟨ip + 2, dk, Nat.le_refl _, by omega, by go_num, hsz3, rfl, hS⟩
                         case round =>
                           clear hS
                           obtain ⟨j, dj, hj, hjb, rfl, hsj, hI, hS⟩ := hrel
                           by_cases hj2 : j < b
                           · obtain ⟨jp, rfl⟩ : ∃ p, j = p + 1 := ⟨j - 1, by omega⟩
                             obtain ⟨dk', rfl⟩ : ∃ z, z = dk := ⟨_, rfl⟩
                             obtain ⟨dk, rfl⟩ : ∃ z, z = dj := ⟨_, rfl⟩
                             (have : (0 : Int) ≤ ((jp + 1 : Nat) : Int) := by omega
                              have : (((jp + 1 : Nat) : Int) : Int).toNat = jp + 1 := by omega
                              have : (((jp + 1 : Nat) : Int) : Int) < (d.size : Int) := by omega
                              have : IntKind.i64.wrap (((jp + 1 : Nat) : Int) : Int) = ((jp + 1 : Nat) : Int) := by rw [IntKind.wrap_i64]; omega)
                             (have : (0 : Int) ≤ (jp : Int) + 1 := by omega
                              have : ((jp : Int) + 1 : Int).toNat = jp + 1 := by omega
                              have : ((jp : Int) + 1 : Int) < (d.size : Int) := by omega
                              have : IntKind.i64.wrap ((jp : Int) + 1 : Int) = (jp : Int) + 1 := by rw [IntKind.wrap_i64]; omega)
                             (have : (0 : Int) ≤ (jp : Int) := by omega
                              have : ((jp : Int) : Int).toNat = jp := by omega
                              have : ((jp : Int) : Int) < (d.size : Int) := by omega
                              have : IntKind.i64.wrap ((jp : Int) : Int) = (jp : Int) := by rw [IntKind.wrap_i64]; omega)
                             have w1 : IntKind.i64.wrap ((jp : Int) + 1 - 1) = (jp : Int) := by rw [IntKind.wrap_i64]; omega
                             have e6 : ((jp + 1 : Nat) : Int) < (a : Int) + (l : Int) := by omega
                             have e7 : (jp : Int) + 1 < (a : Int) + (l : Int) := by omega
                             ((obtain ⟨x, hx⟩ : ∃ x : PE, x = dk[jp + 1]! := ⟨_, rfl⟩
                               obtain ⟨y, hy⟩ : ∃ y : PE, y = dk[jp]! := ⟨_, rfl⟩
                               have x0 := hS.out.cell0 (i := jp + 1) (by omega)
                               have x1 := hS.out.cell1 (i := jp + 1) (by omega)
                               have y0 := hS.out.cell0 (i := jp) (by omega)
                               have y1 := hS.out.cell1 (i := jp) (by omega)
                               rw [← hx] at x0 x1
                               rw [← hy] at y0 y1
                               have HX := Lib.hid hx
                               have HY := Lib.hid hy
                               clear hx hy)
                              have HC := fun W => compareE x.1 x.2 y.1 y.2 W
                              have hlt : Hid (ltP dk[jp + 1]! dk[jp]! = decide (cmpE x.1 x.2 y.1 y.2 < 0)) := by unfold Hid; rw [← HX.out, ← HY.out]; rfl
                              have hgl := hS.out.lt
                              have HK := Lib.hid (fun (W' : World) (h : Below wr.heap.size wr W') => (⟨(h.cell (p := ⟨g, (jp + 1) * 2, none⟩) hgl).trans x0, (h.cell (p := ⟨g, (jp + 1) * 2 + 1, none⟩) hgl).trans x1, (h.cell (p := ⟨g, (jp) * 2, none⟩) hgl).trans y0, (h.cell (p := ⟨g, (jp) * 2 + 1, none⟩) hgl).trans y1⟩ :
                                W'.cell? ⟨g, (jp + 1) * 2, none⟩ = some (.int .i64 x.1) ∧ W'.cell? ⟨g, (jp + 1) * 2 + 1, none⟩ = some (.int .i64 x.2) ∧ W'.cell? ⟨g, (jp) * 2, none⟩ = some (.int .i64 y.1) ∧ W'.cell? ⟨g, (jp) * 2 + 1, none⟩ = some (.int .i64 y.2)))
                              generalize cmpE x.1 x.2 y.1 y.2 = cp at HC hlt
                              (try go_wp2_with fail)
                              go_region_held3 (fun w' => w'.cell? ⟨g, (jp + 1) * 2, none⟩ = some (.int .i64 x.1) ∧ w'.cell? ⟨g, (jp + 1) * 2 + 1, none⟩ = some (.int .i64 x.2) ∧ w'.cell? ⟨g, (jp) * 2, none⟩ = some (.int .i64 y.1) ∧ w'.cell? ⟨g, (jp) * 2 + 1, none⟩ = some (.int .i64 y.2))
                                (first | exact ⟨x0, x1, y0, y1⟩ | exact HK.out _ hbT | (refine HK.out _ ?_; (repeat (first | with_reducible exact Below.refl _ _ | with_reducible assumption | with_reducible refine below_drewN0 ?_ _ | with_reducible refine Below.drew ?_ | with_reducible refine Below.alloc ?_ ?_ _ | with_reducible refine Below.setCell ?_ ?_ _ | go_size | exact Below.size (by assumption))); done))
                                (first | (go_at_call 68; go_loud (refine (HC _).mono ?_; rintro e w1 ⟨rfl, hbc⟩; have hbT : Below wr.heap.size wr w1 := Below.trans (by (repeat (first | with_reducible exact Below.refl _ _ | with_reducible assumption | with_reducible refine below_drewN0 ?_ _ | with_reducible refine Below.drew ?_ | with_reducible refine Below.alloc ?_ ?_ _ | with_reducible refine Below.setCell ?_ ?_ _ | go_size | exact Below.size (by assumption)))) (hbc.mono (by go_size)))))
                              have hS1 := Lib.hid (hS.out.below hbT)
                              clear HC HK x0 x1 y0 y1)
                             by_cases hcp : cp < 0
                             · have hlt2 := Lib.hid (shiftU_go (b := b) (j := jp + 1) hj2 (show ltP dk[jp + 1]! dk[jp + 1 - 1]! = true by rw [Nat.add_sub_cancel, hlt.out]; exact decide_eq_true hcp))
                               have n4 : (!decide (cp < 0)) = false := by simp [hcp]
                               rw [n4]
                               go_upto_region 23 with fail
                               clear hS
                               have hS := hS1
                               (have z1 := hS.out.frozen ((jp + 1) * 2)
                                have z2 := hS.out.frozen ((jp + 1) * 2 + 1)
                                have z3 := hS.out.frozen ((jp) * 2)
                                have z4 := hS.out.frozen ((jp) * 2 + 1)
                                have hw1 := hS.out.swx (i := jp + 1) (j := jp) (by omega) (by omega) HX.out HY.out
                                have hw2 := hS.out.swx' (i := jp + 1) (j := jp) (by omega) (by omega) HX.out HY.out
                                (try go_wp2_with fail)
                                go_region
                                all_goals
                                  go_wp2_with fail
                                  go_roundw
                                  case rel =>
                                    refine ⟨jp + 2, Sort.swp dk (jp + 1) jp, by omega, by omega, by go_num, by rw [Sort.size_swp]; exact hsj, hlt2.out.symm.trans hI.out, ?_⟩
                                    unfold Hid
                                    first | (with_reducible exact hw1.drew) | (with_reducible exact hw2.drew) | (with_reducible exact hw1) | (with_reducible exact hw2)
                                  case measure => first | (simp [intOf]; done) | (simp [intOf]; omega))
                             · have hlt2 := Lib.hid (shiftU_stop (b := b) (j := jp + 1) (.inr (show ltP dk[jp + 1]! dk[jp + 1 - 1]! = false by rw [Nat.add_sub_cancel, hlt.out]; exact decide_eq_false hcp)))
                               have n4 : (!decide (cp < 0)) = true := by simp [hcp]
                               rw [n4]
                               clear hS
                               (go_wp2_with fail
                                go_roundw
                                case rel =>
                                  refine ⟨ip + 1, s + 1, dk, by omega, by omega, by omega, by go_num, by go_num, by assumption, ?_, by assumption⟩
                                  unfold Hid; rw [show 5 - (s + 1) = 4 - s by omega, ← hO2.out]
                                  congr 1
                                  first | (rw [if_pos (show b - (ip + 1) ≥ 2 by omega), ← hI.out, hlt2.out]; done) | (rw [if_pos (show b - (ip + 1) ≥ 2 by omega), ← hI.out, shiftU_stop (.inl (by omega))]; done) | (rw [if_neg (show ¬ b - (ip + 1) ≥ 2 by omega)]; done)
                                case measure => first | (simp [intOf]; done) | (simp [intOf]; omega))
                           · have e6 : ¬ (j : Int) < (a : Int) + (l : Int) := by omega
                             (go_wp2_with fail
                              go_roundw
                              case rel =>
                                refine ⟨ip + 1, s + 1, dj, by omega, by omega, by omega, by go_num, by go_num, by assumption, ?_, by assumption⟩
                                unfold Hid; rw [show 5 - (s + 1) = 4 - s by omega, ← hO2.out]
                                congr 1
                                first | (rw [if_pos (show b - (ip + 1) ≥ 2 by omega), ← hI.out, hlt2.out]; done) | (rw [if_pos (show b - (ip + 1) ≥ 2 by omega), ← hI.out, shiftU_stop (.inl (by omega))]; done) | (rw [if_neg (show ¬ b - (ip + 1) ≥ 2 by omega)]; done)
                              case measure => first | (simp [intOf]; done) | (simp [intOf]; omega))
                       · have e4 : ¬ (2 : Int) ≤ (a : Int) + (l : Int) - ((ip + 1 : Nat) : Int) := by omega
                         have e5 : ¬ (2 : Int) ≤ (a : Int) + (l : Int) - ((ip : Int) + 1) := by omega
                         (go_wp2_with fail
                          go_roundw
                          case rel =>
                            refine ⟨ip + 1, s + 1, dk, by omega, by omega, by omega, by go_num, by go_num, by assumption, ?_, by assumption⟩
                            unfold Hid; rw [show 5 - (s + 1) = 4 - s by omega, ← hO2.out]
                            congr 1
                            first | (rw [if_pos (show b - (ip + 1) ≥ 2 by omega), ← hI.out, hlt2.out]; done) | (rw [if_pos (show b - (ip + 1) ≥ 2 by omega), ← hI.out, shiftU_stop (.inl (by omega))]; done) | (rw [if_neg (show ¬ b - (ip + 1) ≥ 2 by omega)]; done)
                          case measure => first | (simp [intOf]; done) | (simp [intOf]; omega)))))
          · have hU3 := Lib.hid (hU.out.trans (scanS_go (hBB.out.1 rfl).1 (hBB.out.1 rfl).2))
            have hij := (hBB.out.1 rfl).1
            clear hU hBB
            go_wp2_with fail
            go_roundw
            case rel => exact ⟨i2 + 1, by omega, by omega, by go_num, hU3, hS⟩
            case measure => first | (simp [intOf]; done) | (simp [intOf]; omega)
    · obtain rfl : s = 5 := by omega
      go_wp2_with fail
      go_ret
      refine ⟨false, rfl, ?_, ?_⟩
      · rw [← hO.out]; rfl
      · rw [← hO.out]; exact hS.out
end Go.Proofs.Ytglhdoibglafbaa
