/- Walk of a forest's Look. -/
import Derived.Test.YtgddfmfiiodgbaaU12
import Derived.Test.YtgddfmfiiodgbaaU08
namespace Go.Proofs.Ytgddfmfiiodgbaa
open Go Go.RowKit
set_option maxRecDepth 100000
set_option linter.unusedVariables false
set_option linter.unusedSimpArgs false

/-- What an edge is for a forest. -/
def lookN (M : Nat → Option Nat) (S : FoS) (v w : Nat) : Nat :=
  if M v = some w ∨ S.goneB v = true ∨ S.goneB w = true then 0 else if S.label w = 0 then 1 else if S.outer w = true ∧ S.bs v ≠ S.bs w then 2 else 0



set_option maxHeartbeats 2000000 in
theorem look_any {w0 w : World} {n : Nat} {M : Nat → Option Nat} {L : FLay} {S : FoS} (hF : FW w0 w n M L S) {v u : Nat} (hv : v < n) (hw : u < n) (hlk : S.looks < 4611686018427387903) :
    Calls Try.prog 140 #[.pointer (some ⟨L.f, 0, none⟩), .int .i64 (v : Int), .int .i64 (u : Int)] w (FPost w0 n M L { S with looks := S.looks + 1 } (.int .i64 (lookN M S v u : Int)) w) := by
  have hend : ∀ {x : Nat} {w' : World}, lookN M S v u = x → FW w0 w' n M L { S with looks := S.looks + 1 } → FStep L L w w' → FPost w0 n M L { S with looks := S.looks + 1 } (.int .i64 (lookN M S v u : Int)) w (.returned (.int .i64 (x : Int))) w' := by
    intro x w' hx h1 h2
    exact ⟨L, by rw [hx], h1, h2⟩
  have hFW := hF
  obtain ⟨u', mk, hM⟩ := hF
  have f15 := hM.fc 15 _ rfl
  have z15 := hM.ff 15
  have HS := Lib.hid (show FW w0 (w.setCell ⟨L.f, 15, none⟩ (.int .i64 ((S.looks : Int) + 1))) n M L { S with looks := S.looks + 1 } from ⟨u', mk, hM.setF (mk' := mk) 15 (.int .i64 ((S.looks : Int) + 1)) (S' := { S with looks := S.looks + 1 }) (by simp [FLay.cells]) (fun k => rfl) rfl ⟨hM.bd.pred, hM.bd.root, hM.bd.bridge, hM.bd.base, hM.bd.wait, hM.bd.len, by show S.turn ≤ S.looks + 1; have := hM.bd.turn; omega, by show S.looks + 1 ≤ _; omega, hM.bd.label⟩ rfl hM.mark⟩)
  have HT := Lib.hid ((FStep.refl L w).set (p := ⟨L.f, 15, none⟩) (.inl rfl) (.int .i64 ((S.looks : Int) + 1)))
  clear hM
  have i1 : (0 : Int) ≤ (v : Int) := by omega
  have i2 : (v : Int) < (n : Int) := by omega
  have i3 : (0 : Int) ≤ (u : Int) := by omega
  have i4 : (u : Int) < (n : Int) := by omega
  by_cases hm : M v = some u
  · have HE := Lib.hid (fun w' => hend (x := 0) (w' := w') (by unfold lookN; rw [if_pos (.inl hm)]))
    have HM := Lib.hid hm
    clear hm hend
    (go_enter Try.func140, Try.ntmps140
     go_upto_region 1 with fail
     go_cut [] (fun wc => Hid (FW w0 wc n M L { S with looks := S.looks + 1 }) ∧ Hid (FStep L L w wc))
     case first =>
       go_wp2_with fail
       go_meet
       exact ⟨HS.out, HT.out⟩)
    case rest =>
      obtain ⟨hF1, hT1⟩ := hcut
      have f1 := hF1.out.fc 1 _ rfl
      obtain ⟨b, o, hmA, c1⟩ := hF1.out.mcell hv
      rw [hmA] at f1
      rw [HM.out] at c1
      simp only [encO] at c1
      clear hmA f15 z15
      go_wp2_with fail
      go_ret
      exact HE.out _ hF1.out hT1.out
  · obtain ⟨mv, hmv⟩ : ∃ mv, mv = encO (M v) := ⟨_, rfl⟩
    have j1 : ((u : Int) == mv) = false := by
      rw [beq_eq_false_iff_ne, hmv]
      intro e
      cases hx : M v with
      | none => rw [hx] at e; simp only [encO] at e; omega
      | some y => rw [hx] at e hm; simp only [encO] at e; exact hm (by rw [show u = y by omega])
    have j2 : ¬ ((u : Int) = mv) := by simpa using j1
    have HMV := Lib.hid hmv
    clear hmv
    cases hg1 : S.goneB v with
    | true =>
      have HE := Lib.hid (fun w' => hend (x := 0) (w' := w') (by unfold lookN; rw [if_pos (.inr (.inl hg1))]))
      have hgg : FoS.goneB { S with looks := S.looks + 1 } v = true := hg1
      clear hend
      (go_enter Try.func140, Try.ntmps140
       go_upto_region 1 with fail
       go_cut [] (fun wc => Hid (FW w0 wc n M L { S with looks := S.looks + 1 }) ∧ Hid (FStep L L w wc))
       case first =>
         go_wp2_with fail
         go_meet
         exact ⟨HS.out, HT.out⟩)
      case rest =>
        obtain ⟨hF1, hT1⟩ := hcut
        have f1 := hF1.out.fc 1 _ rfl
        obtain ⟨b, o, hmA, c1⟩ := hF1.out.mcell hv
        rw [hmA] at f1
        rw [← HMV.out] at c1
        clear hmA f15 z15 hg1
        go_wp2_with (first | (go_at_call 171; ((with_reducible refine (gone_any hF1.out hv).mono ?_); rintro e wg ⟨rfl, k1, rfl⟩)) | (go_at_call 171; ((with_reducible refine (gone_any (hF1.out.drewN _) hw).mono ?_); rintro e wg ⟨rfl, k2, rfl⟩)))
        go_ret
        exact HE.out _ (hF1.out.drewN _) (hT1.out.drewN _)
    | false =>
      have hgg : FoS.goneB { S with looks := S.looks + 1 } v = false := hg1
      cases hg2 : S.goneB u with
      | true =>
        have HE := Lib.hid (fun w' => hend (x := 0) (w' := w') (by unfold lookN; rw [if_pos (.inr (.inr hg2))]))
        have hgg2 : FoS.goneB { S with looks := S.looks + 1 } u = true := hg2
        clear hend hg1 hg2
        (go_enter Try.func140, Try.ntmps140
         go_upto_region 1 with fail
         go_cut [] (fun wc => Hid (FW w0 wc n M L { S with looks := S.looks + 1 }) ∧ Hid (FStep L L w wc))
         case first =>
           go_wp2_with fail
           go_meet
           exact ⟨HS.out, HT.out⟩)
        case rest =>
          (obtain ⟨hF1, hT1⟩ := hcut
           have f1 := hF1.out.fc 1 _ rfl
           have f2 := hF1.out.fc 2 _ rfl
           have f3 := hF1.out.fc 3 _ rfl
           have c2 := hF1.out.c2 hw
           have c3 := hF1.out.c3 hw
           dsimp only [FLay.rv] at f2 f3
           obtain ⟨b, o, hmA, c1⟩ := hF1.out.mcell hv
           rw [hmA] at f1
           rw [← HMV.out] at c1
           clear hmA f15 z15)
          go_wp2_with (first | (go_at_call 171; ((with_reducible refine (gone_any hF1.out hv).mono ?_); rintro e wg ⟨rfl, k1, rfl⟩)) | (go_at_call 171; ((with_reducible refine (gone_any (hF1.out.drewN _) hw).mono ?_); rintro e wg ⟨rfl, k2, rfl⟩)))
          go_ret
          exact HE.out _ (hF1.out.drewN _) (hT1.out.drewN _)
      | false =>
        have hgg2 : FoS.goneB { S with looks := S.looks + 1 } u = false := hg2
        have hnm : ¬ (M v = some u ∨ S.goneB v = true ∨ S.goneB u = true) := by
          rintro (e | e | e)
          · exact hm e
          · rw [hg1] at e; cases e
          · rw [hg2] at e; cases e
        have HNM := Lib.hid hnm
        clear hg1 hg2 hnm
        by_cases h0 : S.label u = 0
        · have HE := Lib.hid (fun w' => hend (x := 1) (w' := w') (by unfold lookN; rw [if_neg HNM.out, if_pos h0]))
          have H0 := Lib.hid h0
          clear hend h0
          (go_enter Try.func140, Try.ntmps140
           go_upto_region 1 with fail
           go_cut [] (fun wc => Hid (FW w0 wc n M L { S with looks := S.looks + 1 }) ∧ Hid (FStep L L w wc))
           case first =>
             go_wp2_with fail
             go_meet
             exact ⟨HS.out, HT.out⟩)
          case rest =>
            (obtain ⟨hF1, hT1⟩ := hcut
             have f1 := hF1.out.fc 1 _ rfl
             have f2 := hF1.out.fc 2 _ rfl
             have f3 := hF1.out.fc 3 _ rfl
             have c2 := hF1.out.c2 hw
             have c3 := hF1.out.c3 hw
             dsimp only [FLay.rv] at f2 f3
             obtain ⟨b, o, hmA, c1⟩ := hF1.out.mcell hv
             rw [hmA] at f1
             rw [← HMV.out] at c1
             clear hmA f15 z15)
            rw [H0.out] at c2
            go_wp2_with (first | (go_at_call 171; ((with_reducible refine (gone_any hF1.out hv).mono ?_); rintro e wg ⟨rfl, k1, rfl⟩)) | (go_at_call 171; ((with_reducible refine (gone_any (hF1.out.drewN _) hw).mono ?_); rintro e wg ⟨rfl, k2, rfl⟩)))
            go_ret
            exact HE.out _ (hF1.out.drewN _) (hT1.out.drewN _)
        · obtain ⟨lb, hlb⟩ : ∃ lb, lb = S.label u := ⟨_, rfl⟩
          have k3 : ((lb : Int) == 0) = false := by rw [beq_eq_false_iff_ne]; omega
          have k4 : ¬ lb = 0 := by omega
          have HLB := Lib.hid hlb
          have H0 := Lib.hid h0
          clear hlb h0
          cases hou : S.outer u with
          | false =>
            have HE := Lib.hid (fun w' => hend (x := 0) (w' := w') (by unfold lookN; rw [if_neg HNM.out, if_neg H0.out, if_neg (by rw [hou]; simp)]))
            clear hend
            (go_enter Try.func140, Try.ntmps140
             go_upto_region 1 with fail
             go_cut [] (fun wc => Hid (FW w0 wc n M L { S with looks := S.looks + 1 }) ∧ Hid (FStep L L w wc))
             case first =>
               go_wp2_with fail
               go_meet
               exact ⟨HS.out, HT.out⟩)
            case rest =>
              (obtain ⟨hF1, hT1⟩ := hcut
               have f1 := hF1.out.fc 1 _ rfl
               have f2 := hF1.out.fc 2 _ rfl
               have f3 := hF1.out.fc 3 _ rfl
               have c2 := hF1.out.c2 hw
               have c3 := hF1.out.c3 hw
               dsimp only [FLay.rv] at f2 f3
               obtain ⟨b, o, hmA, c1⟩ := hF1.out.mcell hv
               rw [hmA] at f1
               rw [← HMV.out] at c1
               clear hmA f15 z15)
              rw [← HLB.out] at c2
              rw [hou] at c3
              go_wp2_with (first | (go_at_call 171; ((with_reducible refine (gone_any hF1.out hv).mono ?_); rintro e wg ⟨rfl, k1, rfl⟩)) | (go_at_call 171; ((with_reducible refine (gone_any (hF1.out.drewN _) hw).mono ?_); rintro e wg ⟨rfl, k2, rfl⟩)))
              go_ret
              exact HE.out _ (hF1.out.drewN _) (hT1.out.drewN _)
          | true =>
            have hbs : ∀ z, FoS.bs { S with looks := S.looks + 1 } z = S.bs z := fun z => rfl
            obtain ⟨bv, hbv⟩ : ∃ bv, bv = S.bs v := ⟨_, rfl⟩
            obtain ⟨bu, hbu⟩ : ∃ bu, bu = S.bs u := ⟨_, rfl⟩
            have HBV := fun W (h : FW w0 W n M L { S with looks := S.looks + 1 }) => base_any h hv
            have HBU := fun W (h : FW w0 W n M L { S with looks := S.looks + 1 }) => base_any h hw
            rw [hbs, ← hbv] at HBV
            rw [hbs, ← hbu] at HBU
            clear hbs
            by_cases hb : bv = bu
            · have HE := Lib.hid (fun w' => hend (x := 0) (w' := w') (by unfold lookN; rw [if_neg HNM.out, if_neg H0.out, if_neg (by rw [← hbv, ← hbu]; exact fun e => e.2 hb)]))
              subst hb
              clear hend hbv hbu
              (go_enter Try.func140, Try.ntmps140
               go_upto_region 1 with fail
               go_cut [] (fun wc => Hid (FW w0 wc n M L { S with looks := S.looks + 1 }) ∧ Hid (FStep L L w wc))
               case first =>
                 go_wp2_with fail
                 go_meet
                 exact ⟨HS.out, HT.out⟩)
              case rest =>
                (obtain ⟨hF1, hT1⟩ := hcut
                 have f1 := hF1.out.fc 1 _ rfl
                 have f2 := hF1.out.fc 2 _ rfl
                 have f3 := hF1.out.fc 3 _ rfl
                 have c2 := hF1.out.c2 hw
                 have c3 := hF1.out.c3 hw
                 dsimp only [FLay.rv] at f2 f3
                 obtain ⟨b, o, hmA, c1⟩ := hF1.out.mcell hv
                 rw [hmA] at f1
                 rw [← HMV.out] at c1
                 clear hmA f15 z15)
                rw [← HLB.out] at c2
                rw [hou] at c3
                go_wp2_with (first | (go_at_call 171; ((with_reducible refine (gone_any hF1.out hv).mono ?_); rintro e wg ⟨rfl, k1, rfl⟩)) | (go_at_call 171; ((with_reducible refine (gone_any (hF1.out.drewN _) hw).mono ?_); rintro e wg ⟨rfl, k2, rfl⟩)) | (go_at_call 138; ((with_reducible refine (HBV _ (hF1.out.drewN _)).mono ?_); rintro e wg ⟨rfl, hF2, hT2⟩)) | (go_at_call 138; ((with_reducible refine (HBU _ hF2).mono ?_); rintro e wg ⟨rfl, hF3, hT3⟩)))
                go_ret
                exact HE.out _ hF3 (((hT1.out.drewN _).trans hT2).trans hT3)
            · have HE := Lib.hid (fun w' => hend (x := 2) (w' := w') (by unfold lookN; rw [if_neg HNM.out, if_neg H0.out, if_pos (by rw [← hbv, ← hbu]; exact ⟨hou, hb⟩)]))
              clear hend hbv hbu
              (go_enter Try.func140, Try.ntmps140
               go_upto_region 1 with fail
               go_cut [] (fun wc => Hid (FW w0 wc n M L { S with looks := S.looks + 1 }) ∧ Hid (FStep L L w wc))
               case first =>
                 go_wp2_with fail
                 go_meet
                 exact ⟨HS.out, HT.out⟩)
              case rest =>
                (obtain ⟨hF1, hT1⟩ := hcut
                 have f1 := hF1.out.fc 1 _ rfl
                 have f2 := hF1.out.fc 2 _ rfl
                 have f3 := hF1.out.fc 3 _ rfl
                 have c2 := hF1.out.c2 hw
                 have c3 := hF1.out.c3 hw
                 dsimp only [FLay.rv] at f2 f3
                 obtain ⟨b, o, hmA, c1⟩ := hF1.out.mcell hv
                 rw [hmA] at f1
                 rw [← HMV.out] at c1
                 clear hmA f15 z15)
                rw [← HLB.out] at c2
                rw [hou] at c3
                go_wp2_with (first | (go_at_call 171; ((with_reducible refine (gone_any hF1.out hv).mono ?_); rintro e wg ⟨rfl, k1, rfl⟩)) | (go_at_call 171; ((with_reducible refine (gone_any (hF1.out.drewN _) hw).mono ?_); rintro e wg ⟨rfl, k2, rfl⟩)) | (go_at_call 138; ((with_reducible refine (HBV _ (hF1.out.drewN _)).mono ?_); rintro e wg ⟨rfl, hF2, hT2⟩)) | (go_at_call 138; ((with_reducible refine (HBU _ hF2).mono ?_); rintro e wg ⟨rfl, hF3, hT3⟩)))
                go_ret
                exact HE.out _ hF3 (((hT1.out.drewN _).trans hT2).trans hT3)
end Go.Proofs.Ytgddfmfiiodgbaa

/- Walk of a forest's Grow. -/
namespace Go.Proofs.Ytgddfmfiiodgbaa
open Go Go.RowKit
set_option maxRecDepth 100000
set_option linter.unusedVariables false
set_option linter.unusedSimpArgs false

set_option maxHeartbeats 2000000 in
theorem grow_any {w0 w : World} {n : Nat} {M : Nat → Option Nat} {L : FLay} {S : FoS} (hF : FW w0 w n M L S) {v u x : Nat} (hv : v < n) (hw : u < n) (hvu : v ≠ u) (hx : M u = some x) (hl : S.wait.length ≤ 2 * n) :
    Calls Try.prog 141 #[.pointer (some ⟨L.f, 0, none⟩), .int .i64 (v : Int), .int .i64 (u : Int)] w (FPost w0 n M L (S.grow v u x (wrap64 (S.even v + 1)) (wrap64 (S.even v + 2))) (.tuple #[]) w) := by
  obtain ⟨up, mk, hM⟩ := hF
  have HM := Lib.hid hM
  have hxn := hM.mlt u x hw hx
  have HS := fun (w' : World) (S' : FoS) (h : FMem w0 w' n M L S' up mk) (h1 : S'.root v = S.root v) (h2 : S'.even v = S.even v) =>
    (⟨h.fc 2 _ rfl, h.fc 6 _ rfl, h.fc 7 _ rfl, h.fc 5 _ rfl, h.fc 4 _ rfl, (h.rc 7 (by omega) (by omega) v _ (rowOf_get _ hv)).trans (by rw [h1]), (h.rc 4 (by omega) (by omega) v _ (rowOf_get _ hv)).trans (by rw [h2])⟩ :
      w'.cell? ⟨L.f, 2, none⟩ = some (.slice (some ⟨L.b 2, 0, none⟩) n n) ∧ w'.cell? ⟨L.f, 6, none⟩ = some (.slice (some ⟨L.b 6, 0, none⟩) n n) ∧ w'.cell? ⟨L.f, 7, none⟩ = some (.slice (some ⟨L.b 7, 0, none⟩) n n) ∧ w'.cell? ⟨L.f, 5, none⟩ = some (.slice (some ⟨L.b 5, 0, none⟩) n n) ∧ w'.cell? ⟨L.f, 4, none⟩ = some (.slice (some ⟨L.b 4, 0, none⟩) n n) ∧
      w'.cell? ⟨L.b 7, v, none⟩ = some (.int .i64 (encO (S.root v))) ∧ w'.cell? ⟨L.b 4, v, none⟩ = some (.int .i64 (S.even v)))
  obtain ⟨g2, g6, g7, g5, g4, d7, d4⟩ := HS _ _ hM rfl rfl
  have z2 := hM.rf 2 (by omega) (by omega) u
  have z6 := hM.rf 6 (by omega) (by omega) u
  have z7 := hM.rf 7 (by omega) (by omega) u
  have z5 := hM.rf 5 (by omega) (by omega) u
  have c2 := hM.rc 2 (by omega) (by omega) u _ (rowOf_get _ hw)
  have c6 := hM.rc 6 (by omega) (by omega) u _ (rowOf_get _ hw)
  have c7 := hM.rc 7 (by omega) (by omega) u _ (rowOf_get _ hw)
  have c5 := hM.rc 5 (by omega) (by omega) u _ (rowOf_get _ hw)
  have n1 : ∀ i j, 2 ≤ i → i ≤ 12 → 2 ≤ j → j ≤ 12 → i ≠ j → L.b i ≠ L.b j := fun i j a b c d e e' => e (hM.inj i j a b c d e')
  have n62 := n1 6 2 (by omega) (by omega) (by omega) (by omega) (by omega)
  have n72 := n1 7 2 (by omega) (by omega) (by omega) (by omega) (by omega)
  have n76 := n1 7 6 (by omega) (by omega) (by omega) (by omega) (by omega)
  have n52 := n1 5 2 (by omega) (by omega) (by omega) (by omega) (by omega)
  have n56 := n1 5 6 (by omega) (by omega) (by omega) (by omega) (by omega)
  have n57 := n1 5 7 (by omega) (by omega) (by omega) (by omega) (by omega)
  clear n1
  have hM1 := hM.s2 u 2 (by omega)
  have hM2 := hM1.s6 u v hv
  have hM3 := hM2.s7 u (S.root v) (fun r hr => hM.bd.root v r hv hr)
  have hM4 := hM3.s5 u (wrap64 (S.even v + 1)) trivial
  have hr3 : upd S.root u (S.root v) v = S.root v := upd_ne _ _ hvu
  have HA := Lib.hid (HS _ _ hM1.drew rfl rfl)
  have HB := Lib.hid (HS _ _ hM2.drew rfl rfl)
  have HC := Lib.hid (HS _ _ hM3.drew hr3 rfl)
  have HD := Lib.hid (HS _ _ hM4.drew hr3 rfl)
  have HM9 := Lib.hid (fun k => (((((hM.drewN k).s2 u 2 (by omega)).s6 u v hv).s7 u (S.root v) (fun r hr => hM.bd.root v r hv hr)).s5 u (wrap64 (S.even v + 1)) trivial))
  have HT9 := Lib.hid (fun k => (((((FStep.refl L w).drewN k).set (p := ⟨L.b 2, u, none⟩) (own_row (by omega) (by omega)) (.int .i64 2)).set (p := ⟨L.b 6, u, none⟩) (own_row (by omega) (by omega)) (.int .i64 (v : Int))).set (p := ⟨L.b 7, u, none⟩) (own_row (by omega) (by omega)) (.int .i64 (encO (S.root v)))).set (p := ⟨L.b 5, u, none⟩) (own_row (by omega) (by omega)) (.int .i64 (wrap64 (S.even v + 1))))
  have HM4 := Lib.hid hM4
  have HT := Lib.hid (((((FStep.refl L w).set (p := ⟨L.b 2, u, none⟩) (own_row (by omega) (by omega)) (.int .i64 2)).set (p := ⟨L.b 6, u, none⟩) (own_row (by omega) (by omega)) (.int .i64 (v : Int))).set (p := ⟨L.b 7, u, none⟩) (own_row (by omega) (by omega)) (.int .i64 (encO (S.root v)))).set (p := ⟨L.b 5, u, none⟩) (own_row (by omega) (by omega)) (.int .i64 (wrap64 (S.even v + 1))))
  have HR3 := Lib.hid hr3
  have HX := Lib.hid hx
  clear hM hM1 hM2 hM3 hM4 hr3 hx
  have i1 : (0 : Int) ≤ (v : Int) := by omega
  have i2 : (v : Int) < (n : Int) := by omega
  have i3 : (0 : Int) ≤ (u : Int) := by omega
  have i4 : (u : Int) < (n : Int) := by omega
  have i5 : (0 : Int) ≤ (x : Int) := by omega
  have i6 : (x : Int) < (n : Int) := by omega
  clear HS
  go_enter Try.func141, Try.ntmps141
  go_upto_region 0 with fail
  go_cut [] (fun wc => Hid (FMem w0 wc n M L { S with label := upd S.label u 2, pred := upd S.pred u v, root := upd S.root u (S.root v), odd := upd S.odd u (wrap64 (S.even v + 1)) } up mk) ∧ Hid (FStep L L w wc))
  case first =>
    (refine wp_region_rws [0, 0, 0, 0, 0, 0, 0, 0, 0, 1, 0, 0, 0, 0, 1, 0, 0, 0, 0, 1, 1, 0, 0, 0, 0, 0, 0, 0, 0, 0, 0, 0, 0, 0, 0, 1, 0, 2, 2, 2, 2, 2, 2, 2] (by kernel_rfl) (by kernel_rfl) (by kernel_rfl) (fun _ _ d _ _ h => by cases d <;> exact h) ?_
     simp only [pickL, reduceIte, Nat.reduceEqDiff]
     repeat (go_big_quiet_step (fail))
     refine wpQuiet_nil ?_
     repeat (refine wpW_step ?_ ?_ ?_; rotate_left; focus (intro w1; go_simp; first | done | with_reducible rfl))
     refine wpW_nil ?_
     intro _ hw'
     obtain ⟨nq, hw''⟩ := hw'
     subst hw'')
    go_wp2_with fail
    go_meet
    exact ⟨HM9.out _, HT9.out _⟩
  case rest =>
    obtain ⟨hM5, hT5⟩ := hcut
    clear g2 g6 g7 g5 g4 d7 d4 z2 z6 z7 z5 c2 c6 c7 c5 n62 n72 n76 n52 n56 n57 HM HA HB HC HD HM4 HT HM9 HT9
    obtain ⟨b, o, hmA, m1⟩ := hM5.out.mcell hw
    have f1 := hM5.out.fc 1 _ rfl
    have f7 := hM5.out.fc 7 _ rfl
    have f4 := hM5.out.fc 4 _ rfl
    have d7 := hM5.out.rc 7 (by omega) (by omega) v _ (rowOf_get _ hv)
    have d4 := hM5.out.rc 4 (by omega) (by omega) v _ (rowOf_get _ hv)
    have d7x := hM5.out.rc 7 (by omega) (by omega) x _ (rowOf_get _ hxn)
    have z7 := hM5.out.rf 7 (by omega) (by omega) x
    dsimp only [FLay.rv] at f7 f4 d7 d4 d7x
    rw [hmA] at f1
    rw [HX.out] at m1
    rw [HR3.out] at d7
    simp only [encO] at m1
    obtain ⟨rv, hrv⟩ : ∃ rv, rv = encO (S.root v) := ⟨_, rfl⟩
    rw [← hrv] at d7
    have HRV := Lib.hid hrv
    clear hmA hrv
    go_upto_region 2 with fail
    go_cut [] (fun wc => Hid (FMem w0 wc n M L { S with label := upd S.label u 2, pred := upd S.pred u v, root := upd (upd S.root u (S.root v)) x (S.root v), odd := upd S.odd u (wrap64 (S.even v + 1)) } up mk) ∧ Hid (FStep L L w wc))
    case first =>
      (refine wp_quiet_tail 13 (by kernel_rfl) (by kernel_rfl) ?_
       simp only [List.take_succ_cons, List.take_zero, List.drop_succ_cons, List.drop_zero]
       repeat (go_big_quiet_step (fail))
       refine wpQuiet_nil ?_
       intro _ hw'
       obtain ⟨nq, hw''⟩ := hw'
       subst hw'')
      go_wp2_with fail
      go_meet
      rw [HRV.out]
      exact ⟨(hM5.out.drewN _).s7 x (S.root v) (fun r hr => hM5.out.bd.root v r hv (HR3.out.trans hr)), (hT5.out.drewN _).set (p := ⟨L.b 7, x, none⟩) (own_row (by omega) (by omega)) _⟩
    case rest =>
      obtain ⟨hM6, hT6⟩ := hcut
      have f4' := hM6.out.fc 4 _ rfl
      have d4' := hM6.out.rc 4 (by omega) (by omega) v _ (rowOf_get _ hv)
      dsimp only [FLay.rv] at f4' d4'
      have hF6 : FW w0 wc n M L { S with label := upd S.label u 2, pred := upd S.pred u v, root := upd (upd S.root u (S.root v)) x (S.root v), odd := upd S.odd u (wrap64 (S.even v + 1)) } := ⟨up, mk, hM6.out⟩
      have HRA := fun (W : World) h => raise_at (w := W) (S := { S with label := upd S.label u 2, pred := upd S.pred u v, root := upd (upd S.root u (S.root v)) x (S.root v), odd := upd S.odd u (wrap64 (S.even v + 1)) }) (w0 := w0) (n := n) (M := M) (L := L) h hxn hl (wrap64 (S.even v + 2)) 1 (by omega) 1 rfl
      clear f1 f7 f4 d7 d4 d7x z7 m1
      go_wp2_with (go_at_call 169; ((with_reducible refine (HRA _ hF6).mono ?_); rintro e w9 ⟨L', rfl, hF9, hT9⟩))
      go_end0
      exact ⟨L', rfl, hF9, hT6.out.trans hT9⟩
end Go.Proofs.Ytgddfmfiiodgbaa
