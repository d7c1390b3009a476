/- Walk of the statements' Long: a cycle of many vertices, with chords. -/
import Derived.Test.YtgddfmfiiodgbaaU31
import Derived.Test.YtgddfmfiiodgbaaU30
import Derived.Test.YtgddfmfiiodgbaaU28
namespace Go.Proofs.Ytgddfmfiiodgbaa
open Go Go.RowKit
set_option maxRecDepth 100000
set_option linter.unusedVariables false
set_option linter.unusedSimpArgs false

/-- A cycle's edges, the first k of them. -/
def cycL (n k : Nat) : List (Int × Int) := (List.range k).map fun (v : Nat) => ((v : Int), (((v + 1) % n : Nat) : Int))
theorem cycL_succ (n k : Nat) : cycL n (k + 1) = cycL n k ++ [((k : Int), (((k + 1) % n : Nat) : Int))] := by unfold cycL; rw [List.range_succ]; simp
theorem cycL_length (n k : Nat) : (cycL n k).length = k := by simp [cycL]
theorem cycL_get {n k i : Nat} (h : i < k) : (cycL n k)[i]? = some ((i : Int), (((i + 1) % n : Nat) : Int)) := by simp [cycL, h]

/-- What Long leaves. -/
def LongPost (w : World) (e : Ending) (w' : World) : Prop :=
  ∃ (n : Nat) (es : List (Int × Int)) (A : Option Addr) (c : Nat), e = .returned (.agg #[.int .i64 (n : Int), .slice A es.length c]) ∧ RightP n es ∧ 3 ≤ n ∧ n ≤ 302 ∧ es.length ≤ 362 ∧ (∀ v, v < n → adjE es v ((v + 1) % n)) ∧ es.length ≤ c ∧ Reads w' A (pcells es) ∧ Below w.heap.size w w'

theorem add_has {n : Nat} {es : List (Int × Int)} (hP : RightP n es) {a b : Nat} (ha : a < n) (hb : b < n) (hab : a ≠ b) (hl : es.length < 65536) (h : addErr n es a b ≠ 0) : adjE es a b := by
  rw [← has_adj hP]
  unfold addErr at h
  rw [if_neg (by rw [(right_iff n es).2 hP]; simp), if_neg (by simp [isB]; omega), if_neg (by simp [isB]; omega), if_neg (by omega)] at h
  cases hh : hasB n es (a : Int) (b : Int) with
  | true => rfl
  | false => rw [hh, if_neg (by simp), if_neg (by omega)] at h; exact absurd rfl h
theorem put_adj {es : List (Int × Int)} {a b : Nat} : adjE (putE es (min (a : Int) (b : Int), max (a : Int) (b : Int))) a b := by
  unfold adjE
  rw [mem_putE, mem_putE]
  by_cases h : (a : Int) ≤ (b : Int)
  · exact .inr (.inl (by rw [Int.min_eq_left h, Int.max_eq_right h]))
  · exact .inl (.inl (by rw [Int.min_eq_right (by omega), Int.max_eq_left (by omega)]))
theorem put_adj_old {es : List (Int × Int)} {e : Int × Int} {a b : Nat} (h : adjE es a b) : adjE (putE es e) a b := by
  unfold adjE at h ⊢
  rw [mem_putE, mem_putE]
  exact h.imp .inr .inr
theorem umod (x : Int) (k : Nat) (h0 : 0 < k) (h1 : k ≤ 4096) : ∃ r : Nat, (IntKind.u64.wrap x).tmod (k : Int) = (r : Int) ∧ r < k := by
  have h2 : 0 ≤ IntKind.u64.wrap x := by rw [IntKind.wrap_u64]; omega
  generalize IntKind.u64.wrap x = u at *
  have h3 := Int.tmod_nonneg (k : Int) h2
  have h4 := Int.tmod_lt_of_pos u (show 0 < (k : Int) by omega)
  exact ⟨(u.tmod k).toNat, by omega, by omega⟩

set_option maxHeartbeats 4000000 in
theorem long_any (n0 s0 k0 : Int) (w : World) (hn1 : -9223372036854775808 ≤ n0) (hn2 : n0 ≤ 9223372036854775807) (hs1 : -9223372036854775808 ≤ s0) (hs2 : s0 ≤ 9223372036854775807) (hk1 : -9223372036854775808 ≤ k0) (hk2 : k0 ≤ 9223372036854775807) :
    Calls Try.prog 45 #[.int .i64 n0, .int .i64 s0, .int .i64 k0] w (LongPost w) := by
  obtain ⟨r1, hr1, hr1'⟩ := umod n0 300 (by omega) (by omega)
  obtain ⟨n, hn⟩ : ∃ n : Nat, n = 3 + r1 := ⟨_, rfl⟩
  obtain ⟨r2, hr2, hr2'⟩ := umod s0 n (by omega) (by omega)
  obtain ⟨r3, hr3, hr3'⟩ := umod k0 60 (by omega) (by omega)
  have e1 : (IntKind.u64.wrap n0).tmod 300 = (r1 : Int) := hr1
  have e3 : (IntKind.u64.wrap k0).tmod 60 = (r3 : Int) := hr3
  have i1 : IntKind.i64.wrap (3 + (r1 : Int)) = (n : Int) := by rw [IntKind.wrap_i64]; omega
  have i0 : IntKind.i64.wrap (r1 : Int) = (r1 : Int) := by rw [IntKind.wrap_i64]; omega
  have i2 : IntKind.i64.wrap (2 + (r2 : Int)) = (2 + r2 : Nat) := by rw [IntKind.wrap_i64]; omega
  have i3 : IntKind.i64.wrap (r2 : Int) = (r2 : Int) := by rw [IntKind.wrap_i64]; omega
  have i4 : IntKind.i64.wrap (r3 : Int) = (r3 : Int) := by rw [IntKind.wrap_i64]; omega
  have i5 : IntKind.u64.wrap (n : Int) = (n : Int) := by rw [IntKind.wrap_u64]; omega
  have hn3 : 3 ≤ n := by omega
  have hn302 : n ≤ 302 := by omega
  have nz : ((n : Int) == 0) = false := by rw [beq_eq_false_iff_ne]; omega
  have nz2 : ¬ (n : Int) = 0 := by omega
  clear hr1 hr3
  go_enter Try.func45, Try.ntmps45
  go_upto_region 2 with fail
  rw [show (3 + (r1 : Int)) = (n : Int) by omega]
  clear hn i1 i0 e1 hr1'
  go_upto_region 3 with fail
  rw [show (2 + (r2 : Int)) = ((2 + r2 : Nat) : Int) by omega]
  obtain ⟨st, hst⟩ : ∃ st, st = 2 + r2 := ⟨_, rfl⟩
  have hst2 : st ≤ 304 := by omega
  rw [← hst]
  clear hst hn1 hn2 hs1 hs2 hk1 hk2 hr2 hr2' i2 i3 i5
  go_upto_region 5 with fail
  obtain ⟨W0, hW0⟩ : ∃ W0, W0 = (w.alloc (Obj.cells #[Value.int IntKind.i64 0, Value.slice none 0 0] 25)).alloc (Obj.cells #[Value.int IntKind.i64 (n : Int), Value.slice none 0 0] 25) := ⟨_, rfl⟩
  rw [← hW0]
  have hs0 : W0.heap.size = w.heap.size + 2 := by rw [hW0]; simp
  have hX8 : Box2 w (w.heap.size + 1) (.int .i64 (n : Int)) (.slice none 0 0) 25 W0 := by
    rw [hW0]
    have := Box2.new (w := w) (wc := w.alloc (Obj.cells #[Value.int IntKind.i64 0, Value.slice none 0 0] 25)) ((Below.refl _ _).alloc (Nat.le_refl _) _) (.int .i64 (n : Int)) (.slice none 0 0) 25
    rw [World.size_alloc] at this
    exact this
  have hX6 : Box2 w w.heap.size (.int .i64 0) (.slice none 0 0) 25 W0 := by
    rw [hW0]
    exact (Box2.new (Below.refl _ _) _ _ _).old _
  clear hW0
  go_wp2_with fail
  go_loopw [7, 9] (fun r i wr => ∃ (v : Nat), i = .int .i64 v ∧ v ≤ n ∧ Hid (OwnE W0 wr r (cycL n v))) (fun _ i _ => n - (intOf i).toNat)
  case atStart => exact ⟨0, rfl, Nat.zero_le _, OwnE.nil W0⟩
  case round =>
    obtain ⟨v, rfl, hv, ho⟩ := hrel
    obtain ⟨A0, c0, rfl, hc0, _⟩ := ho.out.slice
    by_cases hlt : v < n
    · have k1 : (v : Int) < (n : Int) := by omega
      have k2 : IntKind.i64.wrap ((v : Int) + 1) = ((v : Int) + 1) := by rw [IntKind.wrap_i64]; omega
      have k3 : ((v : Int) + 1).tmod (n : Int) = (((v + 1) % n : Nat) : Int) := by
        rw [Int.tmod_eq_emod_of_nonneg (by omega)]
        push_cast
        rfl
      have hal : (cycL n v).length ≤ 5000000 := by rw [cycL_length]; omega
      have HAL := Lib.hid hal
      have hsz := ho.out.2.size
      clear hal
      go_wp2_with (at_builtin; go_loud ((refine wpList_snocE EI_edge rfl (.tmp 33) (.tmp 40) rfl ho.out rfl (v : Int) (((v + 1) % n : Nat) : Int) wr.heap.size rfl rfl HAL.out ?_); intro A2 c2 w2 ho2 _ _))
      refine ⟨⟨v + 1, by go_num, by omega, ?_⟩, by simp [intOf]; omega⟩
      rw [cycL_succ]
      simpa using Lib.hid ho2
    · obtain rfl : n = v := by omega
      rw [cycL_length] at *
      have hcy : ∃ ys, cycL n n = cycL n n ++ ys ∧ ys.length ≤ 0 := ⟨[], by simp, Nat.le_refl _⟩
      have HX8 := Lib.hid hX8
      have HX6 := Lib.hid hX6
      have HS0 := Lib.hid hs0
      clear hX8 hX6 hs0 hv hlt
      go_wp2_with fail
      go_loopw [7, 10] (fun r i wr2 => ∃ (k : Nat) (xs : List (Int × Int)), i = .int .i64 k ∧ k ≤ r3 ∧ Hid (OwnE W0 wr2 r xs) ∧ xs.length = n + k ∧ Hid (∃ ys, xs = cycL n n ++ ys)) (fun _ i _ => r3 - (intOf i).toNat)
      case atStart => exact ⟨0, cycL n n, rfl, Nat.zero_le _, by simpa [cycL_length] using ho, by rw [cycL_length]; rfl, ⟨[], by simp⟩⟩
      case round =>
        clear ho hcy hc0
        obtain ⟨k, xs, rfl, hk, ho, hlen, hys⟩ := hrel
        obtain ⟨A1, c1, rfl, hc1, _⟩ := ho.out.slice
        by_cases hlt : k < r3
        · have k1 : (k : Int) < (r3 : Int) := by omega
          have hal : xs.length ≤ 5000000 := by omega
          have HAL := Lib.hid hal
          have hsz := ho.out.2.size
          have HLEN := Lib.hid hlen
          clear hal hlen
          go_upto_region 12 with fail
          (refine wp_region_rws [1, 0, 0, 0, 0, 0, 0, 0, 0, 0, 0, 2, 2, 2, 2] (by kernel_rfl) (by kernel_rfl) (by kernel_rfl) (fun _ _ d _ _ h => by cases d <;> exact h) ?_
           simp only [pickL, reduceIte, Nat.reduceEqDiff]
           repeat (go_big_quiet_step (fail))
           refine wpQuiet_nil ?_
           repeat (refine wpW_step ?_ ?_ ?_; rotate_left; focus (intro w1; go_simp; first | done | with_reducible rfl))
           refine wpW_nil ?_
           intro _ hw'
           obtain ⟨nq, hw''⟩ := hw'
           subst hw'')
          go_wp2_with (at_builtin; go_loud ((refine wpList_snocE EI_edge rfl (.tmp 50) (.tmp 62) rfl (ho.out.drewN nq) rfl _ _ wr.heap.size rfl rfl HAL.out ?_); intro A2 c2 w2 ho2 _ _))
          refine ⟨⟨k + 1, xs ++ [(_, _)], by go_num, by omega, by simpa using Lib.hid ho2, by have := HLEN.out; simp; omega, ?_⟩, by simp [intOf]; omega⟩
          obtain ⟨ys, rfl⟩ := hys.out
          exact ⟨ys ++ [_], by rw [List.append_assoc]⟩
        · have hk' : k = r3 := by omega
          have hcyc : ∀ j, j < n → xs[j]? = some ((j : Int), (((j + 1) % n : Nat) : Int)) := fun j hj => by
            obtain ⟨ys, rfl⟩ := hys.out
            rw [List.getElem?_append_left (by rw [cycL_length]; exact hj)]
            exact cycL_get hj
          have HCYC := Lib.hid hcyc
          have hle : xs.length ≤ 362 := by omega
          have hb0 := ho.out.2
          have HRX := Lib.hid (own_cast ho.out.1 (base' := w.heap.size + 2) (by have := HS0.out; omega) rfl rfl)
          have HBW := Lib.hid hb0
          have hX8 := HX8.out.go (hb0)
          have hX6 := HX6.out.go (hb0)
          have hsz : w.heap.size + 2 ≤ wr.heap.size := by have := hb0.size; have := HS0.out; omega
          have HSZ := Lib.hid hsz
          clear hcyc hys hk hk' hlen hr3' ho HX8 HX6 HS0 hb0 hsz
          go_wp2_with fail
          go_loopw [11] (fun i wq => ∃ (j : Nat) (es : List (Int × Int)) (A : Option Addr) (c : Nat), i = .int .i64 j ∧ j ≤ xs.length ∧ Hid (RightP n es ∧ es.length ≤ j ∧ ∀ v, v < j → v < n → adjE es v ((v + 1) % n)) ∧ es.length ≤ c ∧
            Hid (Box2 w w.heap.size (.int .i64 0) (.slice none 0 0) 25 wq) ∧ Hid (Box2 w (w.heap.size + 1) (.int .i64 (n : Int)) (.slice A es.length c) 25 wq) ∧
            Hid (wq.ownsRow (w.heap.size + 2) 49 2 (.slice A es.length c) es.length (pcells es)) ∧ Hid (wq.ownsRow (w.heap.size + 2) 49 2 (.slice A1 xs.length c1) xs.length (pcells xs)) ∧ Hid (w.heap.size + 2 ≤ wq.heap.size)) (fun i _ => xs.length + 1 - (intOf i).toNat)
          case atStart => exact ⟨0, [], none, 0, rfl, Nat.zero_le _, ⟨⟨by omega, by omega, by simp, by simp, by simp⟩, by simp, fun v h => absurd h (Nat.not_lt_zero _)⟩, by simp, hX6, hX8, own_nil0 _ _ _ _, HRX, HSZ.out⟩
          case round =>
            clear hX6 hX8 HRX
            obtain ⟨j, es, A, c, rfl, hj, hes, hc, hX6, hX8, how, hrx, hsz2⟩ := hrel
            have c0 := hX8.out.c0
            have c1' := hX8.out.c1
            by_cases hlt : j < xs.length
            · obtain ⟨⟨x, y⟩, hxy⟩ : ∃ e, xs[j]? = some e := ⟨xs[j], by simp [hlt]⟩
              obtain ⟨eb, eo, hA1, hebl, cx, cy⟩ := (own_reads1 hrx.out).1.pair' j _ hxy
              simp only at cx cy
              rw [hA1]
              have HA1 := Lib.hid hA1
              have HXY := Lib.hid hxy
              have k1 : (0 : Int) ≤ (j : Int) := by omega
              have k2 : (j : Int) < (xs.length : Int) := by omega
              clear hA1 hxy
              go_upto_region 16 with fail
              go_cut [12, 13] (fun a b wc => ∃ (b12 : Nat) (n' : Int) (A' : Option Addr) (l' c' : Nat) (err : Int), a = .pointer (some ⟨b12, 0, none⟩) ∧ b = .int .i64 err ∧ Hid (wc.heap[b12]? = some (.cells #[.int .i64 n', .slice A' l' c'] 25 (0, 0))) ∧ Hid (Below wr.heap.size wr wc) ∧ Hid (wr.heap.size ≤ b12) ∧
                Hid (err = addErr n es x y) ∧ Hid (err = 0 → n' = n ∧ l' = es.length + 1 ∧ l' ≤ c' ∧ wc.ownsRow wr.heap.size 49 2 (.slice A' l' c') l' (pcells (putE es (min x y, max x y)))))
              case first =>
                have HS : Hid (∀ w', Below wr.heap.size wr w' → w'.cell? ⟨w.heap.size + 1, 0, none⟩ = some (.int .i64 (n : Int)) ∧ w'.cell? ⟨w.heap.size + 1, 1, none⟩ = some (.slice A es.length c) ∧ w'.cell? ⟨eb, eo + j * 2, none⟩ = some (.int .i64 x) ∧ w'.cell? ⟨eb, eo + j * 2 + 1, none⟩ = some (.int .i64 y)) :=
                  fun w' h' => ⟨(hX8.out.go h').c0, (hX8.out.go h').c1, (h'.cell (p := ⟨eb, _, none⟩) hebl).trans cx, (h'.cell (p := ⟨eb, _, none⟩) hebl).trans cy⟩
                have hrE : Hid (∀ w', Below wr.heap.size wr w' → Reads w' A (pcells es)) := fun w' h' => (own_reads1 how.out).1.below h'
                have hel : es.length ≤ 4611686018427387903 := by have := hes.out.2.1; omega
                have HAD := fun (W : World) (h : Reads W A (pcells es)) => addAny (n : Int) x y es A c W h hc hel
                go_region_held3 (fun w' => w'.cell? ⟨w.heap.size + 1, 0, none⟩ = some (.int .i64 (n : Int)) ∧ w'.cell? ⟨w.heap.size + 1, 1, none⟩ = some (.slice A es.length c) ∧ w'.cell? ⟨eb, eo + j * 2, none⟩ = some (.int .i64 x) ∧ w'.cell? ⟨eb, eo + j * 2 + 1, none⟩ = some (.int .i64 y))
                  (first | exact HS.out _ hb1 | (refine HS.out _ ?_; (repeat (first | with_reducible exact Below.refl _ _ | with_reducible assumption | with_reducible refine below_drewN0 ?_ _ | with_reducible refine Below.drew ?_ | with_reducible refine Below.alloc ?_ ?_ _ | with_reducible refine Below.setCell ?_ ?_ _ | go_size | exact Below.size (by assumption))); done))
                  (first | (go_at_call 59; refine (HAD _ (hrE.out _ ?_)).mono ?_; (repeat (first | with_reducible exact Below.refl _ _ | with_reducible assumption | with_reducible refine below_drewN0 ?_ _ | with_reducible refine Below.drew ?_ | with_reducible refine Below.alloc ?_ ?_ _ | with_reducible refine Below.setCell ?_ ?_ _ | go_size | exact Below.size (by assumption))); rintro e w1 ⟨n', A', l', c'', err, rfl, hb1', hE1⟩; have hb1 : Below wr.heap.size wr w1 := Below.trans (by (repeat (first | with_reducible exact Below.refl _ _ | with_reducible assumption | with_reducible refine below_drewN0 ?_ _ | with_reducible refine Below.drew ?_ | with_reducible refine Below.alloc ?_ ?_ _ | with_reducible refine Below.setCell ?_ ?_ _ | go_size | exact Below.size (by assumption)))) (hb1'.mono (by go_size)); first | (have hz := blk2 ((hb1'.block wr.heap.size (by simp)).trans (heap_alloc_new _ _)); obtain ⟨y0, y1, y2, y3, y4⟩ := hz) | skip))
                · go_wp2_with fail
                  go_meet
                  exact ⟨w1.heap.size, n', A', l', c'', err, rfl, rfl, heap_alloc_new _ _, hb1.alloc hb1.size _, hb1.size, hE1.out.1, fun h => by
                    obtain ⟨h1, h2, h3, h4⟩ := hE1.out.2 h
                    exact ⟨h1, h2, h3, own_cast (own_below0 h4 ((Below.refl _ _).alloc (Nat.le_refl _) _)) (Nat.le_refl _) rfl rfl⟩⟩
                · have hz := (hb1'.block wr.heap.size (by simp)).trans (heap_alloc_new _ _)
                  have HZ := Lib.hid hz
                  clear hz
                  go_wp2_with fail
                  go_meet
                  exact ⟨wr.heap.size, n', A', l', c'', err, rfl, rfl, heap_set2 HZ.out _ _, (hb1.setCell (p := ⟨_, 0, none⟩) (Nat.le_refl _) _).setCell (p := ⟨_, 1, none⟩) (Nat.le_refl _) _, Nat.le_refl _, hE1.out.1, fun h => by
                    obtain ⟨h1, h2, h3, h4⟩ := hE1.out.2 h
                    exact ⟨h1, h2, h3, own_cast (own_set (a := ⟨wr.heap.size, 1, none⟩) (own_set (a := ⟨wr.heap.size, 0, none⟩) h4 (by simp) _) (by simp) _) (by simp) rfl rfl⟩⟩
              case rest =>
                obtain ⟨b12, n', A', l', c', err, rfl, rfl, h12, hbc, hb12, herr, hgo⟩ := hcut
                have hX6' := hX6.out.go hbc.out
                have hX8' := hX8.out.go hbc.out
                clear c0 c1' hX6 hX8
                have d0 := blkc0 h12.out 0 _ rfl
                have d1 := blkc0 h12.out 1 _ rfl
                have g0 := hX8'.c0
                have g1 := hX8'.c1
                have gf0 := hX8'.f0 0
                have gf1 := hX8'.f0 1
                have hne : w.heap.size + 1 ≠ b12 := by have := hb12.out; have := hsz2.out; omega
                have HNE := Lib.hid hne
                have how' := Lib.hid (own_below0 how.out hbc.out)
                have HRXc := Lib.hid (own_below0 hrx.out hbc.out)
                have HSZc := Lib.hid (show w.heap.size + 2 ≤ wc.heap.size by have := hbc.out.size; have := hsz2.out; omega)
                have HX6 := Lib.hid hX6'
                have HX8 := Lib.hid hX8'
                clear hX6' hX8' how hrx cx cy hne
                by_cases he : err = 0
                · subst he
                  obtain ⟨h1, h2, h3, h4⟩ := hgo.out rfl
                  subst h1 h2
                  have hz := addErr_zero herr.out.symm
                  have HZ := Lib.hid hz
                  have H4 := Lib.hid h4
                  clear hz h4
                  go_wp2_with fail
                  rw [← HA1.out]
                  go_roundw
                  case rel =>
                    have hl := putE_length es (min x y, max x y)
                    refine ⟨j + 1, putE es (min x y, max x y), A', c', by go_num, by omega, ⟨HZ.out.2.1, by rw [hl]; have := hes.out.2.1; omega, fun v hv hvn => ?_⟩, by rw [hl]; exact h3, ?_, ?_, ?_, ?_, ?_⟩
                    · by_cases hvj : v < j
                      · exact put_adj_old (hes.out.2.2 v hvj hvn)
                      · obtain rfl : v = j := by omega
                        have e := (HXY.out.symm.trans (HCYC.out v hvn))
                        simp only [Option.some.injEq, Prod.mk.injEq] at e
                        rw [e.1, e.2]
                        exact put_adj
                    · exact HX6.out.far (by omega) (Nat.le_succ _) _ _
                    · rw [hl]; exact HX8.out.set (Nat.le_succ _) _ _
                    · rw [hl]
                      have := hsz2.out
                      exact own_cast (own_set (a := ⟨w.heap.size + 1, 1, none⟩) (own_set (a := ⟨w.heap.size + 1, 0, none⟩) H4.out (by show w.heap.size + 1 < _; omega) _) (by show w.heap.size + 1 < _; omega) _) hsz2.out rfl rfl
                    · exact own_set (a := ⟨w.heap.size + 1, 1, none⟩) (own_set (a := ⟨w.heap.size + 1, 0, none⟩) HRXc.out (by show w.heap.size + 1 < _; omega) _) (by show w.heap.size + 1 < _; omega) _
                    · show _ ≤ _
                      simp [World.setCell]
                      exact HSZc.out
                  case measure => simp [intOf]; omega
                · have he' : (err == 0) = false := by rw [beq_eq_false_iff_ne]; exact he
                  go_wp2_with fail
                  rw [← HA1.out]
                  go_roundw
                  case rel =>
                    refine ⟨j + 1, es, A, c, by go_num, by omega, ⟨hes.out.1, by have := hes.out.2.1; omega, fun v hv hvn => ?_⟩, hc, HX6, HX8, ?_, HRXc, HSZc⟩
                    · by_cases hvj : v < j
                      · exact hes.out.2.2 v hvj hvn
                      · obtain rfl : v = j := by omega
                        have e := (HXY.out.symm.trans (HCYC.out v hvn))
                        simp only [Option.some.injEq, Prod.mk.injEq] at e
                        have h9 := herr.out
                        rw [e.1, e.2] at h9
                        have hmod : (v + 1) % n < n := Nat.mod_lt _ (by omega)
                        refine add_has hes.out.1 hvn hmod (fun h => ?_) (by have := hes.out.2.1; omega) (fun h => he (h9.trans h))
                        by_cases hv1 : v + 1 < n
                        · rw [Nat.mod_eq_of_lt hv1] at h; omega
                        · have : v + 1 = n := by omega
                          rw [this, Nat.mod_self] at h; omega
                    · exact how'
                  case measure => simp [intOf]; omega
            · have hj' : j = xs.length := by omega
              have z0 := hX6.out.f0 0
              have z1 := hX6.out.f0 1
              have x0 := hX6.out.c0
              have x1 := hX6.out.c1
              have hnx : n ≤ xs.length := by
                have h1 := HCYC.out (n - 1) (by omega)
                have := (List.getElem?_eq_some_iff.1 h1).1
                omega
              go_wp2_with fail
              have hF := hX6.out.set (Nat.le_refl _) (.int .i64 (n : Int)) (.slice A es.length c)
              obtain ⟨wf, hwf⟩ : ∃ wf, wf = ((wr.setCell { block := w.heap.size, off := 0 } (Value.int IntKind.i64 (n : Int))).setCell { block := w.heap.size, off := 1 } (Value.slice A es.length c)) := ⟨_, rfl⟩
              rw [← hwf] at hF ⊢
              have k0 := hF.c0
              have k1 := hF.c1
              refine bodyPost_ret (v := .agg #[.int .i64 (n : Int), .slice A es.length c]) (by simp [results, Try.results45, go_sem, k0, k1]) rfl ?_
              refine ⟨n, es, A, c, rfl, hes.out.1, hn3, hn302, by have := hes.out.2.1; omega, fun v hv => hes.out.2.2 v (by omega) hv, hc, ?_, hF.below⟩
              rw [hwf]
              exact (own_reads1 (own_set (a := ⟨w.heap.size, 1, none⟩) (own_set (a := ⟨w.heap.size, 0, none⟩) how.out (by show w.heap.size < _; omega) _) (by show w.heap.size < _; omega) _)).1
end Go.Proofs.Ytgddfmfiiodgbaa
