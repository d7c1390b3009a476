/- Walks of help's In and Rises at numbers. -/
import Derived.Test.YtgddfmfiiodgbaaU03
import Derived.Test.YtgddfmfiiodgbaaU33
import Derived.Test.YtgddfmfiiodgbaaU34
import Derived.Test.YtgddfmfiiodgbaaU36
namespace Go.Proofs.Ytgddfmfiiodgbaa
open Go Go.RowKit
set_option maxRecDepth 100000
set_option linter.unusedVariables false
set_option linter.unusedSimpArgs false

set_option maxHeartbeats 2000000 in
theorem inI (l : List Int) (x : Int) (A : Option Addr) (c : Nat) (w : World) (hr : Reads w A (icells l)) (hc : l.length ≤ c) (hm : l.length ≤ 4611686018427387903) :
    Calls Try.prog 80 #[.slice A l.length c, .int .i64 x] w fun e w' => e = .returned (.bool (decide (x ∈ l))) ∧ w = w' := by
  have HM : ∀ k y, l[k]? = some y → y = x → decide (x ∈ l) = true := fun k y h e => decide_eq_true (e ▸ List.mem_of_getElem? h)
  have HN : ∀ k, (∀ i y, i < k → l[i]? = some y → y ≠ x) → l.length ≤ k → decide (x ∈ l) = false := fun k h hk => decide_eq_false (fun hm => by
    obtain ⟨i, hi⟩ := List.getElem?_of_mem hm
    exact h i x (by have := (List.getElem?_eq_some_iff.1 hi).1; omega) hi rfl)
  have HM' := Lib.hid HM
  have HN' := Lib.hid HN
  clear HM HN
  go_enter Try.func80, Try.ntmps80
  go_wp2_with fail
  go_loopw [5] (fun i wr => ∃ k : Nat, k ≤ l.length ∧ i = .int .i64 k ∧ Hid (∀ i y, i < k → l[i]? = some y → y ≠ x) ∧ wr = w) (fun i _ => l.length - (intOf i).toNat)
  case atStart => exact ⟨0, Nat.zero_le _, rfl, fun i y h => by omega, rfl⟩
  case round =>
    obtain ⟨k, hk, rfl, hall, rfl⟩ := hrel
    by_cases hlt : k < l.length
    · obtain ⟨y, hy⟩ : ∃ y, l[k]? = some y := ⟨l[k], by simp [hlt]⟩
      obtain ⟨b, o, rfl, hb, e1⟩ := hr.int k y hy
      have HY := Lib.hid hy
      clear hy hr
      by_cases hxy : y = x
      · have h1 : (y == x) = true := by simpa using hxy
        have HE := Lib.hid (HM'.out k y HY.out hxy)
        clear hxy
        go_wp2_with fail
        go_ret
        exact ⟨by rw [HE.out]; rfl, rfl⟩
      · have h1 : (y == x) = false := by simpa using hxy
        have HX := Lib.hid hxy
        clear hxy
        go_wp2_with fail
        go_roundw
        case rel => exact ⟨k + 1, by omega, by go_num, fun i z hi hz => (by
          by_cases h9 : i = k
          · subst h9; have := HY.out; rw [this] at hz; cases hz; exact HX.out
          · exact hall.out i z (by omega) hz), (by first | trivial | rfl)⟩
        case measure => simp [intOf]; omega
    · have HE := Lib.hid (HN'.out k hall.out (by omega))
      go_wp2_with fail
      go_ret
      exact ⟨by rw [HE.out]; rfl, rfl⟩

set_option maxHeartbeats 2000000 in
theorem rises_true (l : List Int) (A : Option Addr) (c : Nat) (w : World) (hr : Reads w A (icells l)) (hc : l.length ≤ c) (hm : l.length ≤ 4611686018427387903) (hp : l.Pairwise (· < ·)) :
    Calls Try.prog 75 #[.slice A l.length c] w fun e w' => e = .returned (.bool true) ∧ Below w.heap.size w w' := by
  have HP := Lib.hid hp
  clear hp
  go_enter Try.func75, Try.ntmps75
  go_wp2_with fail
  go_loopw [3] (fun i wr => ∃ k : Nat, k ≤ l.length + 1 ∧ i = .int .i64 ((k + 1 : Nat) : Int) ∧ Below w.heap.size w wr) (fun i _ => l.length + 2 - (intOf i).toNat)
  case atStart => exact ⟨0, Nat.zero_le _, rfl, Below.refl _ _⟩
  case round =>
    obtain ⟨k, hk, rfl, hb⟩ := hrel
    by_cases hlt : k + 1 < l.length
    · obtain ⟨y, hy⟩ : ∃ y, l[k]? = some y := ⟨l[k], by simp⟩
      obtain ⟨z, hz⟩ : ∃ z, l[k + 1]? = some z := ⟨l[k + 1], by simp [hlt]⟩
      obtain ⟨b, o, rfl, hbl, e1⟩ := (hr.below hb).int k y hy
      obtain ⟨b', o', hbo, _, e2⟩ := (hr.below hb).int (k + 1) z hz
      obtain ⟨rfl, rfl⟩ : b' = b ∧ o' = o := by simpa using hbo.symm
      clear hbo
      have hyz : y < z := by
        have := List.pairwise_iff_getElem.1 HP.out k (k + 1) (by omega) hlt (by omega)
        rw [(List.getElem?_eq_some_iff.1 hy).2, (List.getElem?_eq_some_iff.1 hz).2] at this
        exact this
      have hyz' : ¬ z ≤ y := by omega
      clear hy hz hr
      have i1 : ((k + 1 : Nat) : Int) < (l.length : Int) := by omega
      have i2 : ((k + 1 : Nat) : Int) - 1 = (k : Int) := by omega
      have i3 : IntKind.i64.wrap ((k + 1 : Nat) - 1 : Int) = (k : Int) := by rw [i2, IntKind.wrap_i64]; omega
      have i4 : (k : Int) < (l.length : Int) := by omega
      go_wp2_with fail
      go_quiet (fail)
      go_wp2_with fail
      go_roundw
      case rel => exact ⟨k + 1, by omega, by go_num, hb.trans (by (repeat (first | with_reducible exact Below.refl _ _ | with_reducible assumption | with_reducible refine below_drewN0 ?_ _ | with_reducible refine Below.drew ?_ | with_reducible refine Below.alloc ?_ ?_ _ | with_reducible refine Below.setCell ?_ ?_ _ | go_size | exact Below.size (by assumption))))⟩
      case measure => simp [intOf]; omega
    · go_wp2_with fail
      go_ret
      exact ⟨rfl, hb⟩

end Go.Proofs.Ytgddfmfiiodgbaa

/- Walks of the reference's Alternates, Augments at a path that augments. -/
namespace Go.Proofs.Ytgddfmfiiodgbaa
open Go Go.RowKit
set_option maxRecDepth 100000
set_option linter.unusedVariables false
set_option linter.unusedSimpArgs false

theorem natI_get {p : List Nat} {i x : Nat} (h : p[i]? = some x) : (natI p)[i]? = some (x : Int) := by simp [natI, h]
theorem natI_len (p : List Nat) : (natI p).length = p.length := by simp [natI]
theorem natI_mem {p : List Nat} {x : Nat} : (x : Int) ∈ natI p ↔ x ∈ p := by
  unfold natI
  rw [List.mem_map]
  constructor
  · rintro ⟨y, h1, h2⟩
    have : y = x := by omega
    rw [← this]; exact h1
  · exact fun h => ⟨x, h, rfl⟩
theorem icells_front {l : List Int} {k : Nat} {w : World} {A : Option Addr} (h : Reads w A (icells l)) : Reads w A (icells (l.take k)) := by
  rcases h with h | ⟨b, o, h1, h2, h3⟩
  · left
    have : l = [] := by simpa [icells] using h
    simp [this, icells]
  · refine .inr ⟨b, o, h1, h2, fun j v hj => h3 j v ?_⟩
    unfold icells at hj ⊢
    rw [List.getElem?_map] at hj ⊢
    rw [List.getElem?_take] at hj
    split at hj
    · exact hj
    · cases hj

theorem encO_eq {o : Option Nat} {y : Nat} : (encO o == (y : Int)) = decide (o = some y) := by
  cases o with
  | none => simp [encO]
  | some v => simp [encO]; by_cases h : v = y <;> simp [h] <;> omega

set_option maxHeartbeats 4000000 in
theorem alternates_yes {n : Nat} {es : List (Int × Int)} {M : Nat → Option Nat} {p : List Nat} (hP : RightP n es) (hM : IsMat n (adjE es) M) (hp : AugI (adjE es) M p) (hlt : ∀ x ∈ p, x < n) (A mA pA : Option Addr) (c mc pc : Nat) (w : World)
    (hr : Reads w A (pcells es)) (hc : es.length ≤ c) (hrm : Reads w mA (icells (mateL n M))) (hrp : Reads w pA (icells (natI p))) (hpc : p.length ≤ pc) (hpl : p.length ≤ 1000000) :
    Calls Try.prog 99 #[.agg #[.int .i64 (n : Int), .slice A es.length c], .slice mA n mc, .slice pA p.length pc] w fun e w' => e = .returned (.bool true) ∧ Below w.heap.size w w' := by
  have hm : es.length ≤ 2000000 := by have := hP.len; omega
  have HMR := fun (W : World) (h : Below w.heap.size w W) => rmright_mat A mA c mc W (hr.below h) hc hP hM (hrm.below h)
  have HHA := fun (a b : Int) (W : World) (h : Below w.heap.size w W) => refHas (n : Int) a b es A c W (hr.below h) hc (by omega)
  have HIN := fun (k : Nat) (x : Int) (W : World) (h : Below w.heap.size w W) (hk : k < p.length) => (show Calls Try.prog 80 #[.slice pA k pc, .int .i64 x] W fun e w' => e = .returned (.bool (decide (x ∈ (natI p).take k))) ∧ W = w' from by
    have := inI ((natI p).take k) x pA pc W (icells_front (hrp.below h)) (by simp [natI]; omega) (by simp [natI]; omega)
    rwa [show ((natI p).take k).length = k by simp [natI]; omega] at this)
  have HIS := fun (x : Int) (W : World) => refIs_any (n : Int) x A es.length c W
  have HP := Lib.hid hP
  have HPA := Lib.hid hp
  have HLT := Lib.hid hlt
  have HRP := Lib.hid hrp
  have HRM := Lib.hid hrm
  have hl2 := hp.len
  have i0 : ¬ ((p.length : Int) < 1) := by omega
  have i00 : decide ((p.length : Int) < 1) = false := decide_eq_false i0
  clear hP hp hlt hrp hrm hr hM
  go_enter Try.func99, Try.ntmps99
  go_upto_region 1 with fail
  (have hX1 := Box2.new (Below.refl w.heap.size w) (Value.int IntKind.i64 (n : Int)) (Value.slice A es.length c) 25
   generalize w.alloc (Obj.cells #[Value.int IntKind.i64 (n : Int), Value.slice A es.length c] 25) = w1 at hX1 ⊢
   have c0 := hX1.c0
   have c1 := hX1.c1)
  go_upto_region 4 with (go_at_call 34; (refine (HMR w1 hX1.below).mono ?_; rintro e w2 ⟨rfl, hb2⟩))
  have hX2 := Lib.hid (hX1.go hb2)
  clear hX1 c0 c1 hb2 HMR
  go_loopw [7] (fun i wr => ∃ (k : Nat), i = .int .i64 k ∧ k ≤ p.length ∧ Hid (Box2 w w.heap.size (.int .i64 (n : Int)) (.slice A es.length c) 25 wr)) (fun i _ => p.length - (intOf i).toNat)
  case atStart => exact ⟨0, rfl, Nat.zero_le _, hX2⟩
  case round =>
    clear hX2
    obtain ⟨k, rfl, hk, hX⟩ := hrel
    have c0 := hX.out.c0
    have c1 := hX.out.c1
    by_cases hlt : k < p.length
    · have i1 : (k : Int) < (p.length : Int) := by omega
      have i2 : (0 : Int) ≤ (k : Int) := by omega
      obtain ⟨x, hx⟩ : ∃ x, p[k]? = some x := ⟨p[k], by simp [hlt]⟩
      have hxn := HLT.out x (List.mem_of_getElem? hx)
      obtain ⟨pb, po, hpA, hpbl, cx⟩ := (HRP.out.below hX.out.below).int k _ (natI_get hx)
      have hin : decide ((x : Int) ∈ (natI p).take k) = false := by
        refine decide_eq_false fun hm => ?_
        obtain ⟨j, hj⟩ := List.getElem?_of_mem hm
        rw [List.getElem?_take] at hj
        split at hj
        · rename_i hjk
          unfold natI at hj
          rw [List.getElem?_map] at hj
          cases hpj : p[j]? with
          | none => rw [hpj] at hj; cases hj
          | some y =>
            rw [hpj] at hj
            simp at hj
            have hyx : y = x := by omega
            rw [hyx] at hpj
            have := nodup_idx HPA.out.nd hpj hx
            omega
        · cases hj
      have HI := HIN k (x : Int)
      rw [hin] at HI
      have HS1 := HIS (x : Int)
      rw [decide_eq_true (show (0 : Int) ≤ (x : Int) ∧ (x : Int) < (n : Int) by omega)] at HS1
      rw [hpA] at HI ⊢
      have HPX := Lib.hid hpA
      have i3 : (k : Int) ≤ (pc : Int) := by omega
      clear hpA hin
      have HS : Hid (∀ W', Below wr.heap.size wr W' → W'.cell? ⟨w.heap.size, 0, none⟩ = some (.int .i64 (n : Int)) ∧ W'.cell? ⟨w.heap.size, 1, none⟩ = some (.slice A es.length c) ∧ W'.cell? ⟨pb, po + k, none⟩ = some (.int .i64 (x : Int))) :=
        fun W' h => ⟨(hX.out.go h).c0, (hX.out.go h).c1, (h.cell (p := ⟨pb, po + k, none⟩) hpbl).trans cx⟩
      have HBB := Lib.hid (fun (W' : World) (h : Below wr.heap.size wr W') => (hX.out.below.trans (h.mono hX.out.below.size) : Below w.heap.size w W'))
      go_upto_region 6 with fail
      go_region_held3 (fun W' => W'.cell? ⟨w.heap.size, 0, none⟩ = some (.int .i64 (n : Int)) ∧ W'.cell? ⟨w.heap.size, 1, none⟩ = some (.slice A es.length c) ∧ W'.cell? ⟨pb, po + k, none⟩ = some (.int .i64 (x : Int)))
        (first | exact ⟨c0, c1, cx⟩ | (refine HS.out _ ?_; (repeat (first | with_reducible exact Below.refl _ _ | with_reducible assumption | with_reducible refine below_drewN0 ?_ _ | with_reducible refine Below.drew ?_ | with_reducible refine Below.alloc ?_ ?_ _ | with_reducible refine Below.setCell ?_ ?_ _ | go_size | exact Below.size (by assumption))); done))
        (first
          | (go_at_call 82; refine (HS1 _).mono ?_; rintro e w3 ⟨rfl, hb3'⟩; have hb3 := below_on (a := wr) (by (repeat (first | with_reducible exact Below.refl _ _ | with_reducible assumption | with_reducible refine below_drewN0 ?_ _ | with_reducible refine Below.drew ?_ | with_reducible refine Below.alloc ?_ ?_ _ | with_reducible refine Below.setCell ?_ ?_ _ | go_size | exact Below.size (by assumption)))) hb3')
          | (go_at_call 80; refine (HI _ (HBB.out _ ?_) hlt).mono ?_; (repeat (first | with_reducible exact Below.refl _ _ | with_reducible assumption | with_reducible refine below_drewN0 ?_ _ | with_reducible refine Below.drew ?_ | with_reducible refine Below.alloc ?_ ?_ _ | with_reducible refine Below.setCell ?_ ?_ _ | go_size | exact Below.size (by assumption))); rintro e w4 ⟨rfl, rfl⟩))
      go_upto_region 8 with fail
      have hX3 := Lib.hid (hX.out.go hb3)
      have hpl : p[k]? = some x := hx
      have HPL := Lib.hid hpl
      clear hX c0 c1 cx HS HBB HI HS1 hx hpl hb3 hb3' hpbl
      obtain ⟨wr', rfl⟩ : ∃ z, z = wr := ⟨_, rfl⟩
      obtain ⟨wr, rfl⟩ : ∃ z, z = w3 := ⟨_, rfl⟩
      have c0 := hX3.out.c0
      have c1 := hX3.out.c1
      obtain ⟨pb', po', hpA', hpbl, cx⟩ := (HRP.out.below hX3.out.below).int k _ (natI_get HPL.out)
      rw [HPX.out] at hpA'
      obtain ⟨rfl, rfl⟩ : pb' = pb ∧ po' = po := by simp at hpA'; omega
      clear hpA'
      cases k with
      | zero =>
        have g1 : decide ((0 : Int) < ((0 : Nat) : Int)) = false := by simp
        have g2 : decide ((1 : Int) < ((0 : Nat) : Int)) = false := by simp
        go_quiet (fail)
        go_upto_region 10 with fail
        go_quiet (fail)
        go_wp2_with fail
        exact ⟨⟨1, rfl, by omega, hX3.out.drewN _⟩, by simp [intOf]; omega⟩
      | succ j =>
        obtain ⟨y, hy⟩ : ∃ y, p[j]? = some y := ⟨p[j]'(by omega), by simp [show j < p.length by omega]⟩
        have hyn := HLT.out y (List.mem_of_getElem? hy)
        have hE := HPA.out.e j y x hy HPL.out
        have hown := HPA.out.own j y x hy HPL.out
        have HH := HHA (y : Int) (x : Int)
        rw [(has_adj HP.out y x).2 hE] at HH
        obtain ⟨pb2, po2, hpA2, hpbl2, cy⟩ := (HRP.out.below hX3.out.below).int j _ (natI_get hy)
        rw [HPX.out] at hpA2
        obtain ⟨rfl, rfl⟩ : pb2 = pb' ∧ po2 = po' := by simp at hpA2; omega
        have HS : Hid (∀ W', Below wr.heap.size wr W' → W'.cell? ⟨w.heap.size, 0, none⟩ = some (.int .i64 (n : Int)) ∧ W'.cell? ⟨w.heap.size, 1, none⟩ = some (.slice A es.length c) ∧ W'.cell? ⟨pb2, po2 + (j + 1), none⟩ = some (.int .i64 (x : Int)) ∧ W'.cell? ⟨pb2, po2 + j, none⟩ = some (.int .i64 (y : Int))) :=
          fun W' h => ⟨(hX3.out.go h).c0, (hX3.out.go h).c1, (h.cell (p := ⟨pb2, po2 + (j + 1), none⟩) hpbl).trans cx, (h.cell (p := ⟨pb2, po2 + j, none⟩) hpbl).trans cy⟩
        have HBB := Lib.hid (fun (W' : World) (h : Below wr.heap.size wr W') => (hX3.out.below.trans (h.mono hX3.out.below.size) : Below w.heap.size w W'))
        have g1 : decide ((0 : Int) < ((j + 1 : Nat) : Int)) = true := decide_eq_true (by omega)
        have g2 : decide ((0 : Int) < (j : Int) + 1) = true := decide_eq_true (by omega)
        have g3 : IntKind.i64.wrap ((j : Int) + 1 - 1) = (j : Int) := by rw [IntKind.wrap_i64]; omega
        have g4 : IntKind.i64.wrap (j : Int) = (j : Int) := by rw [IntKind.wrap_i64]; omega
        have g5 : (j : Int) < (p.length : Int) := by omega
        have g6 : (0 : Int) ≤ (j : Int) := by omega
        have k7 : (j : Int) + 1 < (p.length : Int) := by omega
        have k8 : (0 : Int) ≤ (j : Int) + 1 := by omega
        have k9 : ((j : Int) + 1).toNat = j + 1 := by omega
        have HY := Lib.hid hy
        have HOWN := Lib.hid hown
        clear hpA2 hown hE hy hpbl2
        go_region_held3 (fun W' => W'.cell? ⟨w.heap.size, 0, none⟩ = some (.int .i64 (n : Int)) ∧ W'.cell? ⟨w.heap.size, 1, none⟩ = some (.slice A es.length c) ∧ W'.cell? ⟨pb2, po2 + (j + 1), none⟩ = some (.int .i64 (x : Int)) ∧ W'.cell? ⟨pb2, po2 + j, none⟩ = some (.int .i64 (y : Int)))
          (first | exact ⟨c0, c1, cx, cy⟩ | (refine HS.out _ ?_; (repeat (first | with_reducible exact Below.refl _ _ | with_reducible assumption | with_reducible refine below_drewN0 ?_ _ | with_reducible refine Below.drew ?_ | with_reducible refine Below.alloc ?_ ?_ _ | with_reducible refine Below.setCell ?_ ?_ _ | go_size | exact Below.size (by assumption))); done))
          (first
            | (go_at_call 83; refine (HH _ (HBB.out _ ?_)).mono ?_; (repeat (first | with_reducible exact Below.refl _ _ | with_reducible assumption | with_reducible refine below_drewN0 ?_ _ | with_reducible refine Below.drew ?_ | with_reducible refine Below.alloc ?_ ?_ _ | with_reducible refine Below.setCell ?_ ?_ _ | go_size | exact Below.size (by assumption))); rintro e w5 ⟨rfl, hb5'⟩; have hb5 := below_on (a := wr) (by (repeat (first | with_reducible exact Below.refl _ _ | with_reducible assumption | with_reducible refine below_drewN0 ?_ _ | with_reducible refine Below.drew ?_ | with_reducible refine Below.alloc ?_ ?_ _ | with_reducible refine Below.setCell ?_ ?_ _ | go_size | exact Below.size (by assumption)))) hb5'))
        go_upto_region 10 with fail
        have hX5 := Lib.hid (hX3.out.go hb5)
        clear hX3 c0 c1 cx cy HS HBB HH hb5 hb5' hpbl
        obtain ⟨wr'', rfl⟩ : ∃ z, z = wr := ⟨_, rfl⟩
        obtain ⟨wr, rfl⟩ : ∃ z, z = w5 := ⟨_, rfl⟩
        cases j with
        | zero =>
          have g7 : decide ((1 : Int) < ((0 + 1 : Nat) : Int)) = false := by simp
          have g8 : decide ((1 : Int) < (((0 : Nat) : Int)) + 1) = false := by simp
          go_quiet (fail)
          go_wp2_with fail
          exact ⟨⟨2, rfl, by omega, hX5.out.drewN nq⟩, by simp [intOf]; omega⟩
        | succ i =>
          obtain ⟨z, hz⟩ : ∃ z, p[i]? = some z := ⟨p[i]'(by omega), by simp [show i < p.length by omega]⟩
          have hzn := HLT.out z (List.mem_of_getElem? hz)
          have hown2 := HPA.out.own i z y hz HY.out
          obtain ⟨pb3, po3, hpA3, hpbl3, cx⟩ := (HRP.out.below hX5.out.below).int (i + 1 + 1) _ (natI_get HPL.out)
          rw [HPX.out] at hpA3
          obtain ⟨rfl, rfl⟩ : pb3 = pb2 ∧ po3 = po2 := by simp at hpA3; omega
          obtain ⟨pb4, po4, hpA4, _, cy⟩ := (HRP.out.below hX5.out.below).int (i + 1) _ (natI_get HY.out)
          rw [HPX.out] at hpA4
          obtain ⟨rfl, rfl⟩ : pb4 = pb3 ∧ po4 = po3 := by simp at hpA4; omega
          obtain ⟨pb5, po5, hpA5, _, cz⟩ := (HRP.out.below hX5.out.below).int i _ (natI_get hz)
          rw [HPX.out] at hpA5
          obtain ⟨rfl, rfl⟩ : pb5 = pb4 ∧ po5 = po4 := by simp at hpA5; omega
          obtain ⟨mb, mo, hmA, _, cmz⟩ := (HRM.out.below hX5.out.below).int z _ (mateL_get M hzn)
          obtain ⟨mb2, mo2, hmA2, _, cmy⟩ := (HRM.out.below hX5.out.below).int y _ (mateL_get M hyn)
          rw [hmA] at hmA2
          obtain ⟨rfl, rfl⟩ : mb2 = mb ∧ mo2 = mo := by simp at hmA2; omega
          have e1 : (encO (M z) == (y : Int)) = decide (i % 2 = 1) := by rw [encO_eq]; exact decide_eq_decide.2 hown2
          have e2 : (encO (M y) == (x : Int)) = decide ((i + 1) % 2 = 1) := by rw [encO_eq]; exact decide_eq_decide.2 HOWN.out
          obtain ⟨ez, hez⟩ : ∃ q, q = encO (M z) := ⟨_, rfl⟩
          obtain ⟨ey, hey⟩ : ∃ q, q = encO (M y) := ⟨_, rfl⟩
          rw [← hez] at e1 cmz
          rw [← hey] at e2 cmy
          have e3 : ((ez == (y : Int)) == (ey == (x : Int))) = false := by
            rw [e1, e2]
            by_cases h : i % 2 = 1
            · have : ¬ (i + 1) % 2 = 1 := by omega
              simp [h, this]
            · have : (i + 1) % 2 = 1 := by omega
              simp [h, this]
          rw [hmA]
          have HMA := Lib.hid hmA
          have g7 : decide ((1 : Int) < ((i + 1 + 1 : Nat) : Int)) = true := decide_eq_true (by omega)
          have g8 : decide ((1 : Int) < (i : Int) + 1 + 1) = true := decide_eq_true (by omega)
          have h3 : IntKind.i64.wrap ((i : Int) + 1 + 1 - 2) = (i : Int) := by rw [IntKind.wrap_i64]; omega
          have h4 : IntKind.i64.wrap ((i : Int) + 1 + 1 - 1) = (i : Int) + 1 := by rw [IntKind.wrap_i64]; omega
          have h5 : (i : Int) < (p.length : Int) := by omega
          have h6 : (0 : Int) ≤ (i : Int) := by omega
          have h7 : (i : Int) + 1 < (p.length : Int) := by omega
          have h8 : (i : Int) + 1 + 1 < (p.length : Int) := by omega
          have h9 : (z : Int) < (n : Int) := by omega
          have h10 : (y : Int) < (n : Int) := by omega
          have h11 : (0 : Int) ≤ (z : Int) := by omega
          have h12 : (0 : Int) ≤ (y : Int) := by omega
          have h13 : (0 : Int) ≤ (i : Int) + 1 := by omega
          have h14 : ((i : Int) + 1).toNat = i + 1 := by omega
          have h15 : (0 : Int) ≤ (i : Int) + 1 + 1 := by omega
          have h16 : ((i : Int) + 1 + 1).toNat = i + 1 + 1 := by omega
          clear hmA hmA2 hpA3 hpA4 hpA5 hez hey e1 e2 hown2 hz
          go_quiet (fail)
          go_wp2_with fail
          rw [← HMA.out]
          go_roundw
          case rel => exact ⟨i + 1 + 1 + 1, by go_num, by omega, hX5.out.drewN nq⟩
          case measure => simp [intOf]; omega
    · have i1 : ¬ (k : Int) < (p.length : Int) := by omega
      go_wp2_with fail
      go_ret
      exact ⟨rfl, hX.out.below⟩

set_option maxHeartbeats 2000000 in
theorem augments_yes {n : Nat} {es : List (Int × Int)} {M : Nat → Option Nat} {p : List Nat} (hP : RightP n es) (hM : IsMat n (adjE es) M) (hp : AugI (adjE es) M p) (hlt : ∀ x ∈ p, x < n) (A mA pA : Option Addr) (c mc pc : Nat) (w : World)
    (hr : Reads w A (pcells es)) (hc : es.length ≤ c) (hrm : Reads w mA (icells (mateL n M))) (hrp : Reads w pA (icells (natI p))) (hpc : p.length ≤ pc) (hpl : p.length ≤ 1000000) :
    Calls Try.prog 41 #[.agg #[.int .i64 (n : Int), .slice A es.length c], .slice mA n mc, .slice pA p.length pc] w fun e w' => e = .returned (.bool true) ∧ Below w.heap.size w w' := by
  have HAL := fun (W : World) (h : Below w.heap.size w W) => alternates_yes hP hM hp hlt A mA pA c mc pc W (hr.below h) hc (hrm.below h) (hrp.below h) hpc hpl
  have hl2 := hp.len
  obtain ⟨x, hx⟩ : ∃ x, p[0]? = some x := ⟨p[0]'(by omega), by simp⟩
  obtain ⟨y, hy⟩ : ∃ y, p[p.length - 1]? = some y := ⟨p[p.length - 1]'(by omega), by simp⟩
  have hfx := hp.f0 x hx
  have hfy := hp.f1 y hy
  have hxn := hlt x (List.mem_of_getElem? hx)
  have hyn := hlt y (List.mem_of_getElem? hy)
  have HRP := Lib.hid hrp
  have HRM := Lib.hid hrm
  have i1 : decide ((2 : Int) ≤ (p.length : Int)) = true := decide_eq_true (by omega)
  have i2 : IntKind.i64.wrap ((p.length : Int) - 1) = ((p.length - 1 : Nat) : Int) := by rw [IntKind.wrap_i64]; omega
  have i3 : ((p.length - 1 : Nat) : Int) < (p.length : Int) := by omega
  have i4 : (0 : Int) ≤ ((p.length - 1 : Nat) : Int) := by omega
  have i5 : (0 : Int) < (p.length : Int) := by omega
  have i6 : (x : Int) < (n : Int) := by omega
  have i7 : (y : Int) < (n : Int) := by omega
  have i8 : (0 : Int) ≤ (x : Int) := by omega
  have i9 : (0 : Int) ≤ (y : Int) := by omega
  obtain ⟨l1, hl1⟩ : ∃ l1, l1 = p.length - 1 := ⟨_, rfl⟩
  rw [← hl1] at hy i2 i3 i4
  clear hp hlt hrp hrm hr hP hM hl2 hl1
  go_enter Try.func41, Try.ntmps41
  go_upto_region 1 with fail
  (have hX1 := Box2.new (Below.refl w.heap.size w) (Value.int IntKind.i64 (n : Int)) (Value.slice A es.length c) 25
   generalize w.alloc (Obj.cells #[Value.int IntKind.i64 (n : Int), Value.slice A es.length c] 25) = w1 at hX1 ⊢
   have c0 := hX1.c0
   have c1 := hX1.c1)
  have HF := Lib.hid (fun (W : World) (h : Below w.heap.size w W) => (show (∃ pb po mb mo, pA = some ⟨pb, po, none⟩ ∧ mA = some ⟨mb, mo, none⟩ ∧ W.cell? ⟨pb, po + 0, none⟩ = some (.int .i64 (x : Int)) ∧ W.cell? ⟨pb, po + l1, none⟩ = some (.int .i64 (y : Int)) ∧ W.cell? ⟨mb, mo + x, none⟩ = some (.int .i64 (-1)) ∧ W.cell? ⟨mb, mo + y, none⟩ = some (.int .i64 (-1))) from by
    obtain ⟨pb, po, h1, _, h2⟩ := (HRP.out.below h).int 0 _ (natI_get hx)
    obtain ⟨pb', po', h3, _, h4⟩ := (HRP.out.below h).int l1 _ (natI_get hy)
    obtain ⟨mb, mo, h5, _, h6⟩ := (HRM.out.below h).int x _ (mateL_get M hxn)
    obtain ⟨mb', mo', h7, _, h8⟩ := (HRM.out.below h).int y _ (mateL_get M hyn)
    rw [h1] at h3
    rw [h5] at h7
    obtain ⟨rfl, rfl⟩ : pb' = pb ∧ po' = po := by simp at h3; omega
    obtain ⟨rfl, rfl⟩ : mb' = mb ∧ mo' = mo := by simp at h7; omega
    rw [hfx] at h6
    rw [hfy] at h8
    exact ⟨_, _, _, _, h1, h5, h2, h4, h6, h8⟩))
  clear hx hy hfx hfy hxn hyn
  go_wp2_with (go_at_call 99; (refine (HAL w1 hX1.below).mono ?_; rintro e w2 ⟨rfl, hb2⟩; obtain ⟨pb, po, mb, mo, rfl, rfl, q1, q2, q3, q4⟩ := HF.out w2 (hX1.go hb2).below; rw [Nat.add_zero] at q1))
  go_ret
  exact ⟨rfl, (hX1.go hb2).below⟩
end Go.Proofs.Ytgddfmfiiodgbaa
