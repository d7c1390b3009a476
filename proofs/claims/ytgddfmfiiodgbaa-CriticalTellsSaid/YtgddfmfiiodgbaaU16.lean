/- Walk of a forest's meet. -/
import Derived.Test.YtgddfmfiiodgbaaU15
namespace Go.Proofs.Ytgddfmfiiodgbaa
open Go Go.RowKit
set_option maxRecDepth 100000
set_option linter.unusedVariables false
set_option linter.unusedSimpArgs false

def hdI : List Nat → Int
  | [] => -1
  | z :: _ => z

/-- Two chains that meet. -/
structure MeetP (n : Nat) (M : Nat → Option Nat) (S : FoS) (c : Nat) (X Y : List Nat) : Prop where
  nX : X.Nodup
  nY : Y.Nodup
  cX : c ∈ X
  cY : c ∈ Y
  lX : ∀ z ∈ X, z < n
  lY : ∀ z ∈ Y, z < n
  nextX : ∀ l1 z l2, X = l1 ++ z :: l2 → encO ((M z).map fun m => S.bs (S.pred m)) = hdI l2
  nextY : ∀ l1 z l2, Y = l1 ++ z :: l2 → encO ((M z).map fun m => S.bs (S.pred m)) = hdI l2
  befX : ∀ l1 z l2, X = l1 ++ z :: l2 → z ∈ Y → z ≠ c → c ∈ l1
  befY : ∀ l1 z l2, Y = l1 ++ z :: l2 → z ∈ X → z ≠ c → c ∈ l1

theorem MeetP.swap {n : Nat} {M : Nat → Option Nat} {S : FoS} {c : Nat} {X Y : List Nat} (h : MeetP n M S c X Y) : MeetP n M S c Y X :=
  ⟨h.nY, h.nX, h.cY, h.cX, h.lY, h.lX, h.nextY, h.nextX, h.befY, h.befX⟩

theorem Ch.next {M : Nat → Option Nat} {S : FoS} {b : Nat} {l : List Nat} (h : Ch M S b l) : ∀ l1 z l2, l = l1 ++ z :: l2 → encO ((M z).map fun m => S.bs (S.pred m)) = hdI l2 := by
  intro l1 z l2 he
  have ht := h.tail he
  generalize hl : z :: l2 = l' at ht
  cases ht with
  | root hm => simp at hl; rw [hm, hl]; rfl
  | step hm hc =>
    simp at hl
    obtain ⟨l3, h3⟩ := hc.first
    rw [hm, hl, h3]
    rfl

theorem MeetP.of {n : Nat} {E : Nat → Nat → Prop} {M : Nat → Option Nat} {S : FoS} {D : Nat → Nat} (hg : IsGr n E) (hM : IsMat n E M) (h : FInv n E M S D) {a b c : Nat} {xs ys r : List Nat} (ha : IsB n S a) (hb : IsB n S b) (hca : Ch M S a (xs ++ c :: r)) (hcb : Ch M S b (ys ++ c :: r)) (hx : ∀ x ∈ xs, x ∉ ys ++ c :: r) (hy : ∀ y ∈ ys, y ∉ xs ++ c :: r) : MeetP n M S c (xs ++ c :: r) (ys ++ c :: r) := by
  have na := h.ch_nodup hg hM hca ha
  have nb := h.ch_nodup hg hM hcb hb
  have key : ∀ (p q : List Nat), (p ++ c :: r).Nodup → (∀ x ∈ p, x ∉ q ++ c :: r) → ∀ l1 z l2, p ++ c :: r = l1 ++ z :: l2 → z ∈ q ++ c :: r → z ≠ c → c ∈ l1 := by
    intro p q hn hp l1 z l2 he hz hzc
    rcases List.append_eq_append_iff.1 he with ⟨us, e1, e2⟩ | ⟨bs, e1, e2⟩
    · cases us with
      | nil => simp at e2; exact absurd e2.1.symm hzc
      | cons a us => simp at e2; rw [e1]; simp [e2.1]
    · cases bs with
      | nil => simp at e2; exact absurd e2.1 hzc
      | cons a bs =>
        simp at e2
        exact absurd hz (hp z (by rw [e1]; simp [e2.1]))
  exact ⟨na, nb, by simp, by simp, fun z hz => (h.ch_all hg hM hca ha z hz).1.1, fun z hz => (h.ch_all hg hM hcb hb z hz).1.1, hca.next, hcb.next, key xs ys na hx, key ys xs nb hy⟩

theorem FRow_mk (S : FoS) (u mk : Nat → Nat) (n x y k : Nat) (h : k ≠ 12) : FRow S u (upd mk x y) n k = FRow S u mk n k := by
  match k with
  | 0 | 1 | 2 | 3 | 4 | 5 | 6 | 7 | 8 | 9 | 10 | 11 => rfl
  | 12 => exact absurd rfl h
  | k + 13 => rfl

/-- How far the two walks have come. -/
def MeetI (w0 w : World) (n : Nat) (M : Nat → Option Nat) (L : FLay) (S : FoS) (c T : Nat) (X1 X2 Y1 Y2 : List Nat) : Prop :=
  MeetP n M S c (X1 ++ X2) (Y1 ++ Y2) ∧ ¬ (c ∈ X1 ∧ c ∈ Y1) ∧ ∃ u mk, FMem w0 w n M L { S with turn := T } u mk ∧ ∀ v, v < n → (mk v = T ↔ v ∈ X1 ∨ v ∈ Y1)

set_option maxHeartbeats 2000000 in
theorem meet_any {w0 w : World} {n : Nat} {M : Nat → Option Nat} {L : FLay} {S : FoS} (hF : FW w0 w n M L S) {a b c : Nat} {X Y : List Nat} (hP : MeetP n M S c (a :: X) (b :: Y)) (hT : S.turn < S.looks) :
    Calls Try.prog 174 #[.pointer (some ⟨L.f, 0, none⟩), .int .i64 (a : Int), .int .i64 (b : Int)] w (FPost w0 n M L { S with turn := S.turn + 1 } (.int .i64 (c : Int)) w) := by
  obtain ⟨u, mk, hM⟩ := hF
  have f13 := hM.fc 13 _ rfl
  have z13 := hM.ff 13
  have hlk := hM.bd.looks
  have hM1 := hM.setF (mk' := mk) 13 (.int .i64 ((S.turn : Int) + 1)) (S' := { S with turn := S.turn + 1 }) (by simp [FLay.cells]) (fun k => rfl) rfl ⟨hM.bd.pred, hM.bd.root, hM.bd.bridge, hM.bd.base, hM.bd.wait, hM.bd.len, by show S.turn + 1 ≤ S.looks; omega, hM.bd.looks, hM.bd.label⟩ rfl (fun v hv => by show mk v ≤ S.turn + 1; have := hM.mark v hv; omega)
  have HI := Lib.hid (show MeetI w0 (w.setCell ⟨L.f, 13, none⟩ (.int .i64 ((S.turn : Int) + 1))) n M L S c (S.turn + 1) [] (a :: X) [] (b :: Y) from ⟨by simpa using hP, by simp, u, mk, hM1, fun v hv => by have := hM.mark v hv; simp; omega⟩)
  have HS := Lib.hid ((FStep.refl L w).set (p := ⟨L.f, 13, none⟩) (.inl rfl) (.int .i64 ((S.turn : Int) + 1)))
  clear hM hM1
  have hlX : ∀ z ∈ a :: X, z < n := hP.lX
  clear hP hlX
  have hT2 : S.turn < 4611686018427387903 := by omega
  have hT3 : ((S.turn : Int) + 1) = ((S.turn + 1 : Nat) : Int) := by omega
  clear hlk
  have hgoal : ∀ {S' : FoS} {x : Value} {e : Ending} {w' : World} {T : Nat}, T = S.turn + 1 → FPost w0 n M L { S with turn := T } x w e w' → FPost w0 n M L { S with turn := S.turn + 1 } x w e w' := by
    intro S' x e w' T hT h; rw [hT] at h; exact h
  obtain ⟨T, hTT⟩ : ∃ T, T = S.turn + 1 := ⟨_, rfl⟩
  rw [← hTT] at HI
  have HTT := Lib.hid hTT
  clear hTT hT3
  go_enter Try.func174, Try.ntmps174
  go_wp2_with fail
  go_loopg [1, 2] (2 * ((a :: X).length + (b :: Y).length) + 1) (fun k p q wr => ∃ (X1 X2 Y1 Y2 : List Nat), p = .int .i64 (hdI X2) ∧ q = .int .i64 (hdI Y2) ∧ Hid (2 * (X2.length + Y2.length) + (if X2 = [] then 1 else 0) ≤ k) ∧ Hid (MeetI w0 wr n M L S c T X1 X2 Y1 Y2) ∧ Hid (FStep L L w wr))
  case atStart => exact ⟨[], a :: X, [], b :: Y, rfl, rfl, by show 2 * _ + (if a :: X = [] then 1 else 0) ≤ _; rw [if_neg (by simp)]; omega, HI, HS⟩
  case round =>
    clear HI HS
    obtain ⟨X1, X2, Y1, Y2, rfl, rfl, hk, hI, hS⟩ := hrel
    obtain ⟨hP, hnb, u, mk, hM, hmk⟩ := hI.out
    cases X2 with
    | nil =>
      have hY2 : Y2 ≠ [] := by
        rintro rfl
        have h1 := hP.cX
        have h2 := hP.cY
        simp at h1 h2
        exact hnb ⟨h1, h2⟩
      have hI' : Hid (MeetI w0 wr n M L S c T Y1 Y2 X1 []) := ⟨hP.swap, fun e => hnb e.symm, u, mk, hM, fun v hv => (hmk v hv).trans Or.comm⟩
      have hk' := hk.out
      simp only [List.length_nil, if_true] at hk'
      have e : hdI [] = -1 := rfl
      rw [e]
      clear hP hnb hM hmk hI hk
      have HY2 := Lib.hid hY2
      clear hY2
      have HK := Lib.hid hk'
      clear hk'
      go_wp2_with fail
      go_roundg (2 * Y2.length + 0)
      case rel => exact ⟨Y1, Y2, X1, [], rfl, by rw [e], by show _ ≤ _; rw [if_neg HY2.out]; simp, hI', hS⟩
      case measure => have := HK.out; omega
    | cons z X2 =>
      have hzX : z ∈ X1 ++ z :: X2 := by simp
      have hzn := hP.lX z hzX
      have hk' := hk.out
      rw [if_neg (by simp)] at hk'
      have e : hdI (z :: X2) = z := rfl
      rw [e]
      have f12 := hM.fc 12 _ rfl
      have f13 := hM.fc 13 _ rfl
      have c12 := hM.rc 12 (by omega) (by omega) z _ (rowOf_get _ hzn)
      dsimp only [FLay.rv] at f12 f13
      have i1 : (0 : Int) ≤ (z : Int) := by omega
      have i2 : (z : Int) < (n : Int) := by omega
      have i3 : ((z : Int) != -1) = true := by rw [bne_iff_ne]; omega
      by_cases hmz : mk z = T
      · have hzc : z = c := by
          rcases (hmk z hzn).1 hmz with h' | h'
          · have := (List.nodup_append.1 hP.nX).2.2 z h' z (by simp)
            exact absurd rfl this
          · refine Classical.byContradiction fun hne => hnb ⟨hP.befX X1 z X2 rfl (by simp [h']) hne, ?_⟩
            obtain ⟨l1, l2, rfl⟩ := List.append_of_mem h'
            have := hP.befY l1 z (l2 ++ Y2) (by simp) hzX hne
            simp [this]
        rw [hmz] at c12
        have HZ := Lib.hid hzc
        have HF := Lib.hid (show FW w0 wr n M L { S with turn := T } from ⟨u, mk, hM⟩)
        clear hP hnb hM hmk hI hk hk' hmz hzc e
        go_wp2_with fail
        go_quiet (fail)
        go_wp2_with fail
        go_ret
        exact hgoal (S' := S) HTT.out ⟨L, by rw [← HZ.out]; rfl, HF.out.drewN _, hS.out.drewN _⟩
      · obtain ⟨mz, hmz'⟩ : ∃ x, x = mk z := ⟨_, rfl⟩
        rw [← hmz'] at c12 hmz
        have z12 := hM.rf 12 (by omega) (by omega) z
        have i5 : ((mz : Int) == (T : Int)) = false := by rw [beq_eq_false_iff_ne]; omega
        have HM2 := Lib.hid (fun k => (hM.drewN k).set 12 z (.int .i64 (T : Int)) (by omega) (by omega) (S' := { S with turn := T }) (u' := u) (mk' := upd mk z T) (by show rowOf n _ = (rowOf n _).set _ _; rw [rowOf_set, upd_map mk (fun v => Value.int .i64 (v : Int))]) (fun k _ _ hk => FRow_mk _ u mk n z _ k hk) rfl rfl rfl hM.bd hM.up (fun v hv => by unfold upd; split; exact Nat.le_refl _; exact hM.mark v hv))
        have HT2 := Lib.hid (fun k => (hS.out.drewN k).set (p := ⟨L.b 12, z, none⟩) (own_row (by omega) (by omega)) (.int .i64 (T : Int)))
        have hnx := hP.nextX X1 z X2 rfl
        have HNX := Lib.hid (show encO ((M z).map fun m => FoS.bs { S with turn := T } (FoS.pred { S with turn := T } m)) = hdI X2 from hnx)
        have hnY1 : ¬ (c ∈ X1 ++ [z] ∧ c ∈ Y1) := by
          rintro ⟨h1, h2⟩
          rcases List.mem_append.1 h1 with h1 | h1
          · exact hnb ⟨h1, h2⟩
          · simp at h1
            subst h1
            exact hmz (by rw [hmz']; exact (hmk c hzn).2 (.inr h2))
        have hmk2 : ∀ v, v < n → (upd mk z T v = T ↔ v ∈ Y1 ∨ v ∈ X1 ++ [z]) := by
          intro v hv
          unfold upd
          by_cases hvz : v = z
          · simp [hvz]
          · rw [if_neg hvz, hmk v hv]
            simp [hvz]
            exact Or.comm
        have HI2 := Lib.hid (fun (W : World) (u' mk' : Nat → Nat) (h : FMem w0 W n M L { S with turn := T } u' mk') (hm : ∀ v, v < n → (mk' v = T ↔ v ∈ Y1 ∨ v ∈ X1 ++ [z])) => (⟨by have := hP.swap; simpa using this, fun h => hnY1 h.symm, u', mk', h, hm⟩ : MeetI w0 W n M L S c T Y1 Y2 (X1 ++ [z]) X2))
        have HMK2 := Lib.hid hmk2
        have HK := Lib.hid hk'
        clear hP hnb hM hmk hI hk hk' hmz' e hnx hnY1 hmk2
        go_wp2_with fail
        go_quiet (fail)
        go_upto_region 5 with fail
        go_cut [] (fun wc => Hid (FMem w0 wc n M L { S with turn := T } u (upd mk z T)) ∧ Hid (FStep L L w wc))
        case first =>
          (refine wp_quiet_tail 10 (by kernel_rfl) (by kernel_rfl) ?_
           simp only [List.take_succ_cons, List.take_zero, List.drop_succ_cons, List.drop_zero]
           repeat (go_big_quiet_step (fail))
           refine wpQuiet_nil ?_
           intro _ hw'
           obtain ⟨nq, hw''⟩ := hw'
           subst hw'')
          go_wp2_with fail
          go_meet
          exact ⟨HM2.out _, HT2.out _⟩
        case rest =>
          obtain ⟨hM3, hT3⟩ := hcut
          clear f12 f13 c12 z12
          have hAB := fun (W : World) h => above_k (w := W) (w0 := w0) (n := n) (M := M) (L := L) (S := { S with turn := T }) (mk := upd mk z T) h hzn
          rw [HNX.out] at hAB
          have hF3 : FWk w0 wc n M L { S with turn := T } (upd mk z T) := ⟨u, hM3.out⟩
          go_wp2_with (go_at_call 194; ((with_reducible refine (hAB _ hF3).mono ?_); rintro e w4 ⟨rfl, hF4, hS4⟩))
          go_roundg (2 * (Y2.length + X2.length) + 1)
          case rel =>
            obtain ⟨u4, hM4⟩ := hF4
            refine ⟨Y1, Y2, X1 ++ [z], X2, rfl, rfl, ?_, HI2.out _ u4 _ hM4 HMK2.out, hT3.out.trans hS4⟩
            show 2 * (Y2.length + X2.length) + _ ≤ _
            split <;> omega
          case measure => have := HK.out; simp at this; omega
end Go.Proofs.Ytgddfmfiiodgbaa

/- Walk of a forest's shrink. -/
namespace Go.Proofs.Ytgddfmfiiodgbaa
open Go Go.RowKit
set_option maxRecDepth 100000
set_option linter.unusedVariables false
set_option linter.unusedSimpArgs false

theorem FStep.wt {L L' : FLay} {a b : World} (h : FStep L L' a b) : ∃ x o c, L' = L.wt x o c := by
  obtain ⟨f, bb, nv, mA, mc, wA, wo, wc⟩ := L
  obtain ⟨f', bb', nv', mA', mc', wA', wo', wc'⟩ := L'
  have h1 := h.f; have h2 := h.b; have h3 := h.nv; have h4 := h.mA; have h5 := h.mc
  simp only at h1 h2 h3 h4 h5
  subst h1 h2 h3 h4 h5
  exact ⟨wA', wo', wc', rfl⟩

section
variable {w0 w : World} {n : Nat} {M : Nat → Option Nat} {L : FLay} {S : FoS}
theorem base_f (hF : FW w0 w n M L S) {f : Nat} (hf : L.f = f) {v : Nat} (hv : v < n) {b : Nat} (hb : S.bs v = b) :
    Calls Try.prog 138 #[.pointer (some ⟨f, 0, none⟩), .int .i64 (v : Int)] w (FVal w0 n M L S (.int .i64 (b : Int)) w) := by
  subst hf hb; exact base_any hF hv
theorem unite_f (hF : FW w0 w n M L S) {f : Nat} (hf : L.f = f) {v u b : Nat} (hv : v < n) (hw : u < n) (hb : b < n) :
    Calls Try.prog 195 #[.pointer (some ⟨f, 0, none⟩), .int .i64 (v : Int), .int .i64 (u : Int), .int .i64 (b : Int)] w (FPost w0 n M L (S.unite v u b) (.tuple #[]) w) := by
  subst hf; exact unite_any hF hv hw hb
theorem raise_f (hF : FW w0 w n M L S) {f : Nat} (hf : L.f = f) {v : Nat} (hv : v < n) (hl : S.wait.length ≤ 2 * n) (x : Int) (l : Nat) (hl2 : l ≤ 2) (li : Int) (hli : li = (l : Int)) :
    Calls Try.prog 169 #[.pointer (some ⟨f, 0, none⟩), .int .i64 (v : Int), .int .i64 x, .int .i64 li] w (FPost w0 n M L (S.raise v x l) (.tuple #[]) w) := by
  subst hf hli; exact raise_any hF hv hl x l hl2
end

theorem brow_get {n : Nat} (f : Nat → Nat × Nat) {m : Nat} (hm : m < n) : ((List.range n).map fun v => (((f v).1 : Int), ((f v).2 : Int)))[m]? = some (((f m).1 : Int), ((f m).2 : Int)) := by simp [hm]
theorem brow_set {n : Nat} (f : Nat → Nat × Nat) (m a b : Nat) : ((List.range n).map fun v => (((f v).1 : Int), ((f v).2 : Int))).set m ((a : Int), (b : Int)) = (List.range n).map fun v => (((upd f m (a, b) v).1 : Int), ((upd f m (a, b) v).2 : Int)) := by
  apply List.ext_getElem?
  intro j
  rw [List.getElem?_set]
  by_cases hj : m = j
  · subst hj
    by_cases hn : m < n
    · simp [hn, upd]
    · simp [hn]
  · rw [if_neg hj]
    simp only [List.getElem?_map]
    by_cases hjn : j < n
    · simp [hjn, upd, Ne.symm hj]
    · simp [hjn]

theorem pcells_get' (l : List (Int × Int)) (i : Nat) (e : Int × Int) (h : l[i]? = some e) : (pcells l)[i * 2]? = some (.int .i64 e.1) ∧ (pcells l)[i * 2 + 1]? = some (.int .i64 e.2) := by
  have := pcells_get l i e h
  rwa [Nat.mul_comm 2 i] at this

theorem FMem.s8 {w0 w : World} {n : Nat} {M : Nat → Option Nat} {L : FLay} {S : FoS} {u mk : Nat → Nat} (h : FMem w0 w n M L S u mk) (m x y : Nat) (hm : m < n) (hx : x < n) (hy : y < n) :
    FMem w0 ((w.setCell ⟨L.b 8, m * 2, none⟩ (.int .i64 (x : Int))).setCell ⟨L.b 8, m * 2 + 1, none⟩ (.int .i64 (y : Int))) n M L { S with bridge := upd S.bridge m (x, y) } u mk := by
  have hb := h.bd.bridge m hm
  have bd : ∀ a b, a < n → b < n → FBd n { S with bridge := upd S.bridge m (a, b) } := fun a b ha hb' => ⟨h.bd.pred, h.bd.root, fun z hz => by show (upd S.bridge m (a, b) z).1 < n ∧ (upd S.bridge m (a, b) z).2 < n; unfold upd; split; exact ⟨ha, hb'⟩; exact h.bd.bridge z hz, h.bd.base, h.bd.wait, h.bd.len, h.bd.turn, h.bd.looks, h.bd.label⟩
  have h1 := h.set 8 (m * 2) (.int .i64 (x : Int)) (by omega) (by omega) (S' := { S with bridge := upd S.bridge m (x, (S.bridge m).2) }) (u' := u) (mk' := mk)
    (by show pcells _ = (pcells _).set _ _; rw [pcells_set0 _ _ _ _ _ (brow_get S.bridge hm), brow_set]) (fun k _ _ hk => FRow_s8 S _ u mk n k hk) rfl rfl rfl (bd _ _ hx hb.2) h.up h.mark
  have h2 := h1.set 8 (m * 2 + 1) (.int .i64 (y : Int)) (by omega) (by omega) (S' := { S with bridge := upd S.bridge m (x, y) }) (u' := u) (mk' := mk)
    (by
      show pcells _ = (pcells _).set _ _
      rw [pcells_set1 _ _ _ _ _ (brow_get (upd S.bridge m (x, (S.bridge m).2)) hm), upd_same, brow_set]
      have : upd (upd S.bridge m (x, (S.bridge m).2)) m (x, y) = upd S.bridge m (x, y) := by funext z; unfold upd; split <;> rfl
      rw [this]) (fun k _ _ hk => by rw [FRow_s8 S _ u mk n k hk]; exact (FRow_s8 S _ u mk n k hk).symm) rfl rfl rfl (bd _ _ hx hy) h.up h.mark
  exact h2

set_option maxHeartbeats 4000000 in
theorem shrink_any {w0 w : World} {n : Nat} {M : Nat → Option Nat} {L : FLay} {S S' : FoS} (hF : FW w0 w n M L S) {v u b k : Nat} (hv : v < n) (hw : u < n) (hb : b < n)
    (hR : ShRun M n v u b (fun m => wrap64 (wrap64 (wrap64 (S.even v + S.even u) + 1) - S.odd m)) k (S.bs v) S S') (hl : S.wait.length + k ≤ 2 * n) :
    Calls Try.prog 175 #[.pointer (some ⟨L.f, 0, none⟩), .int .i64 (v : Int), .int .i64 (u : Int), .int .i64 (b : Int)] w (FPost w0 n M L S' (.tuple #[]) w) := by
  have f4 := hF.fc 4 _ rfl
  have c4v := hF.c4 hv
  have c4u := hF.c4 hw
  dsimp only [FLay.rv] at f4
  have HB0 := fun (W : World) (h : FW w0 W n M L S) => base_any h hv
  have i1 : (0 : Int) ≤ (v : Int) := by omega
  have i2 : (v : Int) < (n : Int) := by omega
  have i3 : (0 : Int) ≤ (u : Int) := by omega
  have i4 : (u : Int) < (n : Int) := by omega
  have hbn := hF.bs_lt hv
  obtain ⟨ld, hld⟩ : ∃ ld, ld = wrap64 (wrap64 (S.even v + S.even u) + 1) := ⟨_, rfl⟩
  rw [← hld] at hR
  obtain ⟨x0, hx0⟩ : ∃ x0, x0 = S.bs v := ⟨_, rfl⟩
  rw [← hx0] at HB0 hbn hR
  obtain ⟨ev, hev⟩ : ∃ ev : Nat → Int, ev = fun m => wrap64 (ld - S.odd m) := ⟨_, rfl⟩
  rw [← hev] at hR
  have HR := Lib.hid hR
  have HL := Lib.hid hl
  have HEV := Lib.hid (show ∀ m, ev m = wrap64 (ld - S.odd m) by intro m; rw [hev])
  clear hR hl hev hx0
  go_enter Try.func175, Try.ntmps175
  go_upto_region 0 with fail
  go_cut [8] (fun v8 wc => v8 = .int .i64 ld ∧ Hid (FW w0 wc n M L S) ∧ Hid (FStep L L w wc))
  case first =>
    go_quiet (fail)
    go_wp2_with fail
    go_meet
    exact ⟨by rw [hld], hF.drewN _, (FStep.refl _ _).drewN _⟩
  case rest =>
    obtain ⟨rfl, hF1, hS1⟩ := hcut
    clear f4 c4v c4u hld
    go_wp2_with (go_at_call 138; ((with_reducible refine (HB0 _ hF1.out).mono ?_); rintro e w2 ⟨rfl, hF2, hS2⟩))
    have HS2 := Lib.hid (hS1.out.trans hS2)
    go_loopg [9] k (fun k p wr => ∃ (x : Nat) (Sc : FoS) (L1 : FLay), p = .int .i64 x ∧ x < n ∧ Hid (FW w0 wr n M L1 Sc) ∧ Hid (FStep L L1 w wr) ∧ Hid (ShRun M n v u b ev k x Sc S') ∧ Hid (Sc.wait.length + k ≤ 2 * n) ∧ Hid (∀ m, ev m = wrap64 (ld - Sc.odd m)))
    case atStart => exact ⟨x0, S, L, rfl, hbn, hF2, HS2, HR, HL, HEV⟩
    case round =>
      clear HR HL HEV hF2 HS2 hF1 hS1 hS2 HB0 hbn hF
      obtain ⟨x, Sc, L1, rfl, hxn, hFa, hSa, hRa, hLa, hEa⟩ := hrel
      obtain ⟨La, Lo, Lc, hL1⟩ := hSa.out.wt
      subst hL1
      have j1 : (0 : Int) ≤ (x : Int) := by omega
      have j2 : (x : Int) < (n : Int) := by omega
      have hRb := hRa.out
      generalize hkk : gk = kk at hRb
      cases hRb with
      | done =>
        have HF := hFa
        have HS := hSa
        clear hRa hLa hEa hkk
        go_wp2_with fail
        go_end0
        exact ⟨_, rfl, HF.out, HS.out⟩
      | @step k' _ m y _ _ hxb _ hm hmn hom hlm hpn hy hR' =>
        have i5 : ((x : Int) != (b : Int)) = true := by rw [bne_iff_ne]; omega
        have f1 := hFa.out.fc 1 _ rfl
        obtain ⟨mb, mo, hmA, c1⟩ := hFa.out.mcell hxn
        rw [hm] at c1
        simp only [encO] at c1
        rw [hmA] at f1
        have f3 := hFa.out.fc 3 _ rfl
        have c3 := hFa.out.c3 hmn
        rw [hom] at c3
        have f8 := hFa.out.fc 8 _ rfl
        obtain ⟨uu, mk, hM⟩ := hFa.out
        have z8 := hM.rf 8 (by omega) (by omega) (m * 2)
        have z8' := hM.rf 8 (by omega) (by omega) (m * 2 + 1)
        have c8 := hM.rc 8 (by omega) (by omega) (m * 2) _ (pcells_get' _ m _ (brow_get Sc.bridge hmn)).1
        have c8' := hM.rc 8 (by omega) (by omega) (m * 2 + 1) _ (pcells_get' _ m _ (brow_get Sc.bridge hmn)).2
        dsimp only [FLay.rv, FLay.wt] at f1 f3 f8 c3 c8 c8' z8 z8'
        have k1 : (0 : Int) ≤ (m : Int) := by omega
        have k2 : (m : Int) < (n : Int) := by omega
        have HM8 := Lib.hid (hM.s8 m v u hmn hv hw)
        have HT8 := Lib.hid ((hSa.out.trans ((FStep.refl (L.wt La Lo Lc) wr).set (p := ⟨L.b 8, m * 2, none⟩) (own_row (by omega) (by omega)) (.int .i64 (v : Int)))).trans ((FStep.refl (L.wt La Lo Lc) _).set (p := ⟨L.b 8, m * 2 + 1, none⟩) (own_row (by omega) (by omega)) (.int .i64 (u : Int))))
        have HR' := Lib.hid hR'
        have HKK := Lib.hid hkk
        clear hM hR' hRa hkk hm hom hmA
        go_upto_region 5 with fail
        go_cut [] (fun wc => Hid (FMem w0 wc n M (L.wt La Lo Lc) { Sc with bridge := upd Sc.bridge m (v, u) } uu mk) ∧ Hid (FStep L (L.wt La Lo Lc) w wc))
        case first =>
          go_wp2_with fail
          go_meet
          exact ⟨HM8.out, HT8.out⟩
        case rest =>
          obtain ⟨hMb, hTb⟩ := hcut
          clear f1 c1 f3 c3 f8 c8 c8' z8 z8' HM8 HT8
          have f5 := hMb.out.fc 5 _ rfl
          have c5 := hMb.out.rc 5 (by omega) (by omega) m _ (rowOf_get _ hmn)
          dsimp only [FLay.rv, FLay.wt] at f5 c5
          have hFb : FW w0 wc n M (L.wt La Lo Lc) { Sc with bridge := upd Sc.bridge m (v, u) } := ⟨uu, mk, hMb.out⟩
          obtain ⟨od, hod⟩ : ∃ od, od = Sc.odd m := ⟨_, rfl⟩
          have HEV := Lib.hid (show ev m = wrap64 (ld - od) by rw [hod]; exact hEa.out m)
          rw [← hod] at c5
          have HRA := raise_f (f := L.f) hFb rfl hmn (by have := hLa.out; show Sc.wait.length ≤ _; omega) (wrap64 (ld - od)) 2 (by omega) 2 rfl
          have hle : ({ Sc with bridge := upd Sc.bridge m (v, u) } : FoS).raise m (wrap64 (ld - od)) 2 = ({ Sc with bridge := upd Sc.bridge m (v, u) } : FoS).raise m (wrap64 (ld - od)) 2 := rfl
          have HB := fun (L2 : FLay) (W : World) (h : FW w0 W n M L2 (({ Sc with bridge := upd Sc.bridge m (v, u) } : FoS).raise m (wrap64 (ld - od)) 2)) (hf : L2.f = L.f) => base_f h hf hpn (b := y) hy
          have HU1 := fun (L2 : FLay) (W : World) (h : FW w0 W n M L2 (({ Sc with bridge := upd Sc.bridge m (v, u) } : FoS).raise m (wrap64 (ld - od)) 2)) (hf : L2.f = L.f) => unite_f h hf hxn hmn hb
          have HU2 := fun (L2 : FLay) (W : World) (h : FW w0 W n M L2 ((({ Sc with bridge := upd Sc.bridge m (v, u) } : FoS).raise m (wrap64 (ld - od)) 2).unite x m b)) (hf : L2.f = L.f) => unite_f h hf hmn hpn hb
          have HP6 := Lib.hid (fun (L2 : FLay) (W : World) (S2 : FoS) (h : FW w0 W n M L2 S2) (hs : S2.pred = Sc.pred) (hf : L2.f = L.f) (hb : L2.b = L.b) => (⟨by have := h.fc 6 _ rfl; rw [hf] at this; dsimp only [FLay.rv] at this; rw [hb] at this; exact this, by have := h.c6 hmn; rw [hs, hb] at this; exact this⟩ : W.cell? ⟨L.f, 6, none⟩ = some (.slice (some ⟨L.b 6, 0, none⟩) n n) ∧ W.cell? ⟨L.b 6, m, none⟩ = some (.int .i64 (Sc.pred m : Int))))
          have hyn : y < n := by rw [← hy]; exact hFa.out.bs_lt hpn
          clear hod hle hy
          obtain ⟨p, hp⟩ : ∃ p, p = Sc.pred m := ⟨_, rfl⟩
          rw [← hp] at HB HU2 HP6 hpn
          have HPP := Lib.hid hp
          clear hp
          go_wp2_with (first
            | (go_at_call 169; ((with_reducible refine HRA.mono ?_); rintro e w3 ⟨L3, rfl, hF3, hS3⟩; have hf3 := hS3.f; have hb3 := hS3.b; dsimp only [FLay.wt] at hf3 hb3; obtain ⟨f6, c6⟩ := HP6.out L3 w3 _ hF3 rfl hf3 hb3))
            | (go_at_call 138; ((with_reducible refine (HB _ _ hF3 hf3).mono ?_); rintro e w4 ⟨rfl, hF4, hS4⟩))
            | (go_at_call 195; ((with_reducible refine (HU1 _ _ hF4 hf3).mono ?_); rintro e w5 ⟨L5, rfl, hF5, hS5⟩; have hf5 := hS5.f.trans hf3; have hb5 := hS5.b.trans hb3; clear f6 c6; obtain ⟨f6, c6⟩ := HP6.out L5 w5 _ hF5 rfl hf5 hb5))
            | (go_at_call 195; ((with_reducible refine (HU2 _ _ hF5 hf5).mono ?_); rintro e w6 ⟨L6, rfl, hF6, hS6⟩)))
          go_roundg k'
          case rel =>
            have e4 : ((({ Sc with bridge := upd Sc.bridge m (v, u) } : FoS).raise m (wrap64 (ld - od)) 2).unite x m b).unite m p b = Sc.shr1 v u b x m (ev m) := by rw [HPP.out, HEV.out]; rfl
            rw [e4] at hF6
            refine ⟨y, _, L6, rfl, hyn, hF6, (((hTb.out.trans hS3).trans hS4).trans hS5).trans hS6, HR'.out, ?_, hEa.out⟩
            have := hLa.out
            have e5 : (Sc.shr1 v u b x m (ev m)).wait = Sc.wait ++ [m] := rfl
            show _ ≤ _
            rw [e5, List.length_append]
            have := HKK.out
            simp
            omega
          case measure => have := HKK.out; omega
end Go.Proofs.Ytgddfmfiiodgbaa
