/- Walk of single.Search. -/
import Derived.Test.YtgddfmfiiodgbaaU23
namespace Go.Proofs.Ytgddfmfiiodgbaa
open Go Go.RowKit
set_option maxRecDepth 100000
set_option linter.unusedVariables false
set_option linter.unusedSimpArgs false

set_option maxHeartbeats 8000000 in
theorem search_any {n : Nat} {E : Nat → Nat → Prop} {M : Nat → Option Nat} {nr : Nat → List Nat} (hg : IsGr n E) (hM : IsMat n E M) (hE : ∀ v u, v < n → (E v u ↔ u ∈ nr v)) (hn : n ≤ 1000000) (htot : sumD nr (List.range n) ≤ 1000000000000)
    {nA mA : Option Addr} {nc mc : Nat} {w : World} (hnear : NearAt w nA n nr) (hr : Reads w mA (icells (mateL n M))) (hc : n ≤ mc) :
    Calls Try.prog 98 #[.slice nA n nc, .slice mA n mc] w (SearchPost n E M nr w) := by
  have HNEW := fnew_any (nA := nA) (nc := nc) (M := M) hn hr hc (fun v x hv hx => hM.lt (hM.symm hx))
  have HG := Lib.hid hg
  have HM := Lib.hid hM
  have HE := Lib.hid hE
  have HN := Lib.hid hnear
  have HTOT := Lib.hid htot
  clear hg hM hE hnear htot hr
  go_enter Try.func98, Try.ntmps98
  go_upto_region 3 with (go_at_call 137; (refine HNEW.mono ?_; rintro e w1 ⟨L, rfl, hF, hb⟩))
  have hSH : SH w w1 n E M L.f L (newS M n) (fun _ => 0) [] (LkF E []) := ⟨hF, rfl, SI.start HM.out, fun v => rfl⟩
  have HSH := Lib.hid hSH
  obtain ⟨f, hf⟩ : ∃ f, f = L.f := ⟨_, rfl⟩
  rw [← hf] at HSH ⊢
  have HF := Lib.hid hf
  clear hSH hF hf HNEW
  go_cut [9, 10] (fun p q wc => Hid (HeadR w wc n E M nr f n p q))
  case first =>
    cases hw : (newS M n).wait with
    | nil =>
      have HNX := next_none_f HSH.out.fw HSH.out.hf hw
      have HW := Lib.hid hw
      clear hw
      go_wp2_with (go_at_call 139; (refine HNX.mono ?_; rintro e w2 ⟨rfl, rfl⟩))
      go_meet
      exact .inr ⟨[], _, _, L, rfl, HSH.out, rfl, HW.out⟩
    | cons v l =>
      have HNX := next_some_f HSH.out.fw HSH.out.hf hw
      have HW := Lib.hid hw
      clear hw
      go_wp2_with (go_at_call 139; (refine HNX.mono ?_; rintro e w2 ⟨L2, rfl, hF2, hS2⟩))
      go_meet
      obtain ⟨h1, h2⟩ := HSH.out.next HW.out hF2 (hS2.hf HSH.out.hf)
      exact .inl ⟨v, [], _, _, L2, rfl, rfl, h2, h1, rfl, by simp⟩
  case rest =>
    clear HSH HF
    go_wp2_with fail
    go_loopg [9, 10] n (fun g p q wr => Hid (HeadR w wr n E M nr f g p q))
    case atStart => exact hcut
    case round =>
      clear hcut
      rcases hrel.out with ⟨v, F, S, D, L, rfl, rfl, hv, hS, hlk, hg2⟩ | ⟨F, S, D, L, rfl, hS, hlk, hw0⟩
      · have hbw := hS.fw.below
        have i1 : (0 : Int) ≤ (v : Int) := by omega
        have i2 : (v : Int) < (n : Int) := by omega
        obtain ⟨nb, no, A, c, hnA, hnb, hnc, hlc, hrd⟩ := HN.out v hv
        rw [hnA]
        have cn := (hbw.cell (p := ⟨nb, no + v, none⟩) hnb).trans hnc
        have HRD := Lib.hid hrd
        have hS0 := Lib.hid (show SH w wr n E M f L S D (F ++ [v]) (LkK E nr F v 0) from ⟨hS.fw, hS.hf, hS.si.congr LkK_zero, hS.gone⟩)
        have HLK := Lib.hid hlk
        have hFn : (F ++ [v]).length ≤ n := hS.si.F_len
        have hvlen : (nr v).length ≤ 1000000000000 := by
          have h1 := sumD_le nr [v] (List.range n) (by simp) (fun x hx => by simp at hx; subst hx; simpa using hv)
          have h2 := HTOT.out
          simp [sumD] at h1 h2
          omega
        have htotF : sumD nr (F ++ [v]) ≤ 1000000000000 := by
          have h1 := sumD_le nr (F ++ [v]) (List.range n) (List.nodup_append.1 hS.si.nd).1 (fun x hx => by have := hS.si.lt x (List.mem_append_left _ hx); simpa using this)
          have h2 := HTOT.out
          omega
        have HTF := Lib.hid htotF
        have hnl : (natI (nr v)).length = (nr v).length := natI_length _
        rw [hnl] at cn hlc
        have HNA := Lib.hid hnA
        have HRL := hrel
        clear hrel hS hlk hnc hrd htotF hnl hnA hbw
        go_wp2_with fail
        go_loopw [35] (fun i wr => ∃ (k : Nat) (S : FoS) (D : Nat → Nat) (L : FLay), i = .int .i64 k ∧ k ≤ (nr v).length ∧ Hid (SH w wr n E M f L S D (F ++ [v]) (LkK E nr F v k)) ∧ Hid (S.looks = sumD nr F + k)) (fun i _ => (nr v).length - (intOf i).toNat)
        case atStart => exact ⟨0, S, D, L, rfl, Nat.zero_le _, hS0, HLK⟩
        case round =>
          clear hS0 HLK cn
          obtain ⟨k, S, D, L, rfl, hk, hS, hlk⟩ := hrel
          by_cases hlt : k < (nr v).length
          · obtain ⟨u, hu⟩ : ∃ u, (nr v)[k]? = some u := ⟨(nr v)[k], by simp [hlt]⟩
            have hEu : E v u := (HE.out v u hv).2 (List.mem_of_getElem? hu)
            have hun : u < n := HG.out.lt (HG.out.symm hEu)
            have hvu : v ≠ u := fun e => HG.out.irr v (by rw [← e] at hEu; exact hEu)
            obtain ⟨b, o, hA, _, cu⟩ := (HRD.out.below hS.out.fw.below).int k (u : Int) (by simp [natI, hu])
            rw [hA]
            have HU := Lib.hid hu
            have HEU := Lib.hid hEu
            have HA := Lib.hid hA
            have j1 : (0 : Int) ≤ (k : Int) := by omega
            have j2 : (k : Int) < ((nr v).length : Int) := by omega
            have hlk1 : S.looks < 4611686018427387903 := by
              have h1 := hlk.out
              have h2 := HTF.out
              rw [sumD_append] at h2
              simp [sumD] at h1 h2
              omega
            have hlk2 := Lib.hid (show S.looks + 1 = sumD nr F + (k + 1) by have := hlk.out; omega)
            have hvF : v ∈ F ++ [v] := by simp
            clear hu hEu hA
            by_cases h0 : M v = some u ∨ (S.label u ≠ 0 ∧ (S.outer u = true → S.bs v = S.bs u))
            · have HLO := look_f hS.out.fw hS.out.hf hv hun hlk1 0 (by rw [lookN0 h0]; rfl)
              have HSI := Lib.hid (show ∀ wr' L', FW w wr' n M L' { S with looks := S.looks + 1 } → L'.f = f → SH w wr' n E M f L' { S with looks := S.looks + 1 } D (F ++ [v]) (LkK E nr F v (k + 1)) from fun wr' L' h1 h2 => ⟨h1, h2, (hS.out.si.nothing (S' := { S with looks := S.looks + 1 }) HM.out hvF HEU.out h0 hvu rfl rfl rfl rfl rfl rfl rfl rfl).congr (LkK_succ HU.out), hS.out.gone⟩)
              clear h0
              go_wp2_with (go_at_call 140; (refine HLO.mono ?_; rintro e w2 ⟨L2, rfl, hF2, hS2⟩))
              exact ⟨⟨k + 1, _, D, L2, by go_num, by omega, HSI.out _ _ hF2 (hS2.hf hS.out.hf), hlk2⟩, by simp [intOf]; omega⟩
            · have hm : M v ≠ some u := fun e => h0 (.inl e)
              by_cases hl0 : S.label u = 0
              · have HLO := look_f hS.out.fw hS.out.hf hv hun hlk1 1 (by rw [lookN1 hS.out.gone hm hl0]; rfl)
                have hmx : ∃ x, M u = some x := by
                  cases hx : M u with
                  | some x => exact ⟨x, rfl⟩
                  | none => have := (hS.out.si.inv.free u hun hx).1; omega
                obtain ⟨x, hx⟩ := hmx
                have hwl : S.wait.length ≤ 2 * n := by have := hS.out.si.wait_len; omega
                have HGR := fun (L2 : FLay) (W : World) (h : FW w W n M L2 { S with looks := S.looks + 1 }) (hf : L2.f = f) => grow_f h hf hv hun hvu hx hwl
                have HSI := Lib.hid (show ∀ wr' L' o e, FW w wr' n M L' (({ S with looks := S.looks + 1 } : FoS).grow v u x o e) → L'.f = f → ∃ D', SH w wr' n E M f L' (({ S with looks := S.looks + 1 } : FoS).grow v u x o e) D' (F ++ [v]) (LkK E nr F v (k + 1)) from
                  fun wr' L' o e h1 h2 => ⟨_, h1, h2, ((hS.out.si.irrel (S' := { S with looks := S.looks + 1 }) rfl rfl rfl rfl rfl rfl rfl rfl).fresh HG.out HM.out o e hvF HEU.out hl0 hx).congr (LkK_succ HU.out), hS.out.gone⟩)
                have HX := Lib.hid hx
                clear h0 hm hl0 hx hwl
                go_wp2_with (first
                  | (go_at_call 140; (refine HLO.mono ?_; rintro e w2 ⟨L2, rfl, hF2, hS2⟩; have hf2 := hS2.hf hS.out.hf))
                  | (go_at_call 141; (refine (HGR _ _ hF2 hf2).mono ?_; rintro e w3 ⟨L3, rfl, hF3, hS3⟩)))
                obtain ⟨D', hSH⟩ := HSI.out _ _ _ _ hF3 (hS3.hf hf2)
                exact ⟨⟨k + 1, _, D', L3, by go_num, by omega, hSH, hlk2⟩, by simp [intOf]; omega⟩
              · have hou : S.outer u = true := by
                  cases ho : S.outer u with
                  | true => rfl
                  | false => exact absurd (.inr ⟨hl0, fun e => by rw [ho] at e; cases e⟩) h0
                have hbne : S.bs v ≠ S.bs u := fun e => h0 (.inr ⟨hl0, fun _ => e⟩)
                have HLO := look_f hS.out.fw hS.out.hf hv hun hlk1 2 (by rw [lookN2 hS.out.gone hm hl0 hou hbne]; rfl)
                have HBV := fun (L2 : FLay) (W : World) (h : FW w W n M L2 { S with looks := S.looks + 1 }) (hf : L2.f = f) => base_f h hf hv (b := S.bs v) rfl
                have HBU := fun (L2 : FLay) (W : World) (h : FW w W n M L2 { S with looks := S.looks + 1 }) (hf : L2.f = f) => base_f h hf hun (b := S.bs u) rfl
                have hvo := (hS.out.si.outerF hvF).2
                have hS1 := hS.out.si.irrel (S' := { S with looks := S.looks + 1 }) rfl rfl rfl rfl rfl rfl rfl rfl
                have i7 : ((S.bs v : Int) == (S.bs u : Int)) = false := by rw [beq_eq_false_iff_ne]; omega
                have i8 : ¬ (S.bs v = S.bs u) := hbne
                by_cases hrt : S.root v = S.root u
                · have hq0 := nil_no
                  obtain ⟨bb, X, Y, k1, k2, S2, hP, hbn, hR1, hl1, hl2, hall⟩ := hS1.meets HG.out HM.out hvF HEU.out hou hrt (fun m => wrap64 (wrap64 (wrap64 (S.even v + S.even u) + 1) - S.odd m))
                  obtain ⟨S3, hR2, hSI3, hg3, hlk3⟩ := hall (fun m => wrap64 (wrap64 (wrap64 (S2.even u + S2.even v) + 1) - S2.odd m))
                  have htl : S.turn < S.looks + 1 := by have := hS.out.fw.turn_lt; omega
                  have HJ := fun (L2 : FLay) (W : World) (h : FW w W n M L2 { S with looks := S.looks + 1 }) (hf : L2.f = f) => join_none_f h hf hv hun hbn hrt hP htl (fun m => rfl) hR1 hl1 (fun m => rfl) hR2 hl2
                  have HSI := Lib.hid (show ∀ wr' L', FW w wr' n M L' S3 → L'.f = f → SH w wr' n E M f L' S3 D (F ++ [v]) (LkK E nr F v (k + 1)) from fun wr' L' h1 h2 => ⟨h1, h2, hSI3.congr (LkK_succ HU.out), fun z => by rw [hg3]; exact hS.out.gone z⟩)
                  have hlk4 := Lib.hid (show S3.looks = sumD nr F + (k + 1) from hlk3.trans hlk2.out)
                  clear h0 hm hl0 hou hbne hvo hS1 hrt hP hR1 hl1 hl2 hall hR2 hSI3 hg3 hlk3
                  go_wp2_with (first
                    | (go_at_call 140; (refine HLO.mono ?_; rintro e w2 ⟨L2, rfl, hF2, hS2⟩; have hf2 := hS2.hf hS.out.hf))
                    | (go_at_call 138; ((with_reducible refine (HBV _ _ hF2 hf2).mono ?_); rintro e w3 ⟨rfl, hF3, hS3⟩))
                    | (go_at_call 138; ((with_reducible refine (HBU _ _ hF3 hf2).mono ?_); rintro e w4 ⟨rfl, hF4, hS4⟩))
                    | (go_at_call 142; (refine (HJ _ _ hF4 hf2).mono ?_; rintro e w5 ⟨L5, rfl, hF5, hS5⟩)))
                  exact ⟨⟨k + 1, S3, D, L5, by go_num, by omega, HSI.out _ _ hF5 (hS5.hf hf2), hlk4⟩, by simp [intOf]; omega⟩
                · have hq1 := nil_yes
                  obtain ⟨rv, ru, pv, pu, q1, q2, q3, q4, q5, q6, q7, q8, q9, q10, q11, q12, q13⟩ := hS1.inv.aug HG.out HM.out hv hvo hun hou HEU.out hrt
                  have hne : rv ≠ ru := fun e => hrt (by
                    have a1 : S.root v = some rv := q1
                    have a2 : S.root u = some ru := q2
                    rw [a1, a2, e])
                  have hnd := List.nodup_append.1 q11
                  have hlv : pv.length ≤ 1000000 := by
                    have := length_le_of_nodup (l := pv.reverse) hnd.1 (fun x hx => (q12 x (by simpa using hx)).1)
                    simp at this
                    omega
                  have hlu : pu.length ≤ 1000000 := by have := length_le_of_nodup hnd.2.1 (fun x hx => (q13 x hx).1); omega
                  have HJ := fun (L2 : FLay) (W : World) (h : FW w W n M L2 { S with looks := S.looks + 1 }) (hf : L2.f = f) => join_path_f h hf hv hun q1 q2 hne q5 q6 hlv hlu
                  have haug : AugW E M (pv.reverse ++ pu) := by
                    obtain ⟨pu', e⟩ := q8.first
                    have h9 := q8.even q10
                    rw [e] at h9 q11 ⊢
                    exact q7.augW (fun h => HG.out.symm h) (fun h => HM.out.symm h) q9 HEU.out h9 q11
                  have HAUG := Lib.hid haug
                  have HLT := Lib.hid (show ∀ x ∈ pv.reverse ++ pu, x < n from fun x hx => by
                    rcases List.mem_append.1 hx with hx | hx
                    · exact (q12 x (by simpa using hx)).1
                    · exact (q13 x hx).1)
                  have HLE := Lib.hid (show S.looks + 1 ≤ sumD nr (List.range n) by
                    have h1 := sumD_le nr (F ++ [v]) (List.range n) (List.nodup_append.1 hS.out.si.nd).1 (fun x hx => by have := hS.out.si.lt x (List.mem_append_left _ hx); simpa using this)
                    have h2 := hlk.out
                    rw [sumD_append] at h1
                    simp [sumD] at h1 h2
                    simp [sumD]
                    omega)
                  clear h0 hm hl0 hou hbne hvo hS1 hrt q1 q2 q3 q4 q5 q6 q7 q8 q9 q10 q11 q12 q13 hne hnd hlv hlu haug
                  go_upto_region 16 with (first
                    | (go_at_call 140; (refine HLO.mono ?_; rintro e w2 ⟨L2, rfl, hF2, hS2⟩; have hf2 := hS2.hf hS.out.hf))
                    | (go_at_call 138; ((with_reducible refine (HBV _ _ hF2 hf2).mono ?_); rintro e w3 ⟨rfl, hF3, hS3⟩))
                    | (go_at_call 138; ((with_reducible refine (HBU _ _ hF3 hf2).mono ?_); rintro e w4 ⟨rfl, hF4, hS4⟩))
                    | (go_at_call 142; (refine (HJ _ _ hF4 hf2).mono ?_; rintro e w5 ⟨g, cg, rfl, hog, hF5, hS5⟩)))
                  have f15 := hF5.fc 15 _ rfl
                  rw [hf2] at f15
                  dsimp only at f15
                  go_quiet (fail)
                  go_wp2_with fail
                  go_ret3
                  refine .inl ⟨pv.reverse ++ pu, g, cg, S.looks + 1, rfl, HLE.out, HAUG.out, HLT.out, ?_, ?_⟩
                  · exact own_cast hog hF4.below.size rfl rfl
                  · exact hF5.below.trans ((below_drewN0 (Below.refl _ _) _).mono hF5.below.size)
          · obtain rfl : k = (nr v).length := by omega
            have hS2 : SH w wr n E M f L S D (F ++ [v]) (LkF E (F ++ [v])) := ⟨hS.out.fw, hS.out.hf, hS.out.si.congr (LkK_all (fun u => HE.out v u hv)), hS.out.gone⟩
            have hlk2 : S.looks = sumD nr (F ++ [v]) := by rw [sumD_append, hlk.out]; simp [sumD]
            have HS2 := Lib.hid hS2
            have HLK2 := Lib.hid hlk2
            clear hS hlk hS2 hlk2
            have hFl : F.length + 1 ≤ n := by simpa using hFn
            cases hw : S.wait with
            | nil =>
              have HNX := next_none_f HS2.out.fw HS2.out.hf hw
              have HW := Lib.hid hw
              clear hw
              go_wp2_with (go_at_call 139; (refine HNX.mono ?_; rintro e w2 ⟨rfl, rfl⟩))
              rw [← HNA.out]
              go_roundg (n - (F.length + 1))
              case rel => exact .inr ⟨F ++ [v], S, D, L, rfl, HS2.out, HLK2.out, HW.out⟩
              case measure => omega
            | cons v' l =>
              have HNX := next_some_f HS2.out.fw HS2.out.hf hw
              have HW := Lib.hid hw
              clear hw
              go_wp2_with (go_at_call 139; (refine HNX.mono ?_; rintro e w2 ⟨L2, rfl, hF2, hS3⟩))
              rw [← HNA.out]
              go_roundg (n - (F.length + 1))
              case rel =>
                obtain ⟨h1, h2⟩ := HS2.out.next HW.out hF2 (hS3.hf HS2.out.hf)
                exact .inl ⟨v', F ++ [v], _, D, L2, rfl, rfl, h2, h1, HLK2.out, by simp⟩
              case measure => omega
      · have hcl := hS.si.closed HG.out hw0 (fun a b h1 h2 => ⟨h1, h2⟩)
        have HCL := Lib.hid hcl
        have HS := Lib.hid hS
        have hF0 := hS.fw
        have f15 := hF0.fc 15 _ rfl
        rw [hS.hf] at f15
        have HLB := labels_f hF0 hS.hf
        have hlt15 : f < wr.heap.size := by obtain ⟨u, mk, hM⟩ := hF0; have := hM.flt; rw [hS.hf] at this; exact this
        have hle : S.looks ≤ sumD nr (List.range n) := by
          rw [hlk]
          exact sumD_le nr F _ (List.nodup_append.1 hS.si.nd).1 (fun x hx => by have := hS.si.lt x (by simp [hx]); simpa using this)
        have HLE := Lib.hid hle
        obtain ⟨lk, hlk9⟩ : ∃ lk, lk = S.looks := ⟨_, rfl⟩
        rw [← hlk9] at f15 HLE
        clear hS hlk hw0 hcl hle hlk9 hrel
        have HBR := Lib.hid HS.out.fw.below
        go_wp2_with fail
        go_region_held3 (fun w' => w'.cell? ⟨f, 15, none⟩ = some (.int .i64 (lk : Int))) (first | exact f15' | exact f15 | (simp [go_sem, *]; done))
          (first | (go_at_call 143; refine (labels_f (HS.out.fw.drew) HS.out.hf).mono ?_; rintro e w2 ⟨B, rfl, hB, hRB, hb2⟩; have f15' := (hb2.cell (p := ⟨f, 15, none⟩) hlt15).trans f15))
        all_goals
          go_wp2_with fail
          go_ret3
          exact .inr ⟨B, S, D, lk, rfl, HLE.out, HS.out.si.inv, HCL.out, hRB, Nat.le_trans HBR.out.size hB, HBR.out.trans (((Below.refl _ _).drew.trans hb2).mono HBR.out.size)⟩
end Go.Proofs.Ytgddfmfiiodgbaa
