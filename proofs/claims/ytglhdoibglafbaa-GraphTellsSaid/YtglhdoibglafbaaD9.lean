/- The walk of graph.Lists. -/
import Derived.Test.YtglhdoibglafbaaA2
import Derived.Test.YtglhdoibglafbaaB1
import Derived.Test.YtglhdoibglafbaaB2
import Derived.Test.YtglhdoibglafbaaGN
import Derived.Deep.OwnRows
import Derived.Deep.RegionLaw
import Derived.Deep.CutBlock
namespace Go.Proofs.Ytglhdoibglafbaa
open Go Go.RowKit
set_option maxRecDepth 100000
set_option linter.unusedVariables false

theorem reads_new' (w : World) (o : Obj) (cs : List Value) (t : TypeId) : Reads (((w.alloc o).alloc (.cells cs.toArray t)).drew) (some ⟨w.heap.size + 1, 0, none⟩) cs := by
  have h := reads_new (w.alloc o) cs t
  rw [World.size_alloc] at h
  exact h

/-- What Lists leaves. -/
def ListsPost (n : Nat) (es : List (Int × Int)) (w : World) (e : Ending) (w' : World) : Prop :=
  ∃ (B : Nat) (vs : List Value), e = .returned (.slice (some ⟨B, 0, none⟩) n n) ∧ w.heap.size ≤ B ∧ RowsI w' 26 3 (B + 1) B vs (rowsF n (nearL es)) ∧ Below w.heap.size w w'


set_option maxHeartbeats 4000000 in
theorem lists_any (n : Nat) (es : List (Int × Int)) (A : Option Addr) (c : Nat) (w : World) (hr : Reads w A (pcells es)) (hc : es.length ≤ c) (hm : es.length ≤ 2000000) (hn : n ≤ 1000000)
    (hok : ∀ e ∈ es, 0 ≤ e.1 ∧ e.1 < (n : Int) ∧ 0 ≤ e.2 ∧ e.2 < (n : Int)) :
    Calls Try.prog 74 #[.int .i64 (n : Int), .slice A es.length c] w (ListsPost n es w) := by
  have hmk := fun w0 : World => run_make_row' (P := Try.prog) 85 26 (.slice none 0 0) 24 Try.underlying85 (by kernel_rfl) rfl .i64 .i64 n (by omega) (by omega) w0
  go_enter Try.func74, Try.ntmps74
  go_wp2_with fail
  generalize hW : w.alloc (Obj.cells (madeCells #[Value.slice none 0 0] n) 26) = W
  have hbW : Below w.heap.size w W := by rw [← hW]; (repeat (first | with_reducible exact Below.refl _ _ | with_reducible assumption | with_reducible refine below_drewN0 ?_ _ | with_reducible refine Below.drew ?_ | with_reducible refine Below.alloc ?_ ?_ _ | with_reducible refine Below.setCell ?_ ?_ _ | go_size))
  have hR0 : RowsI W 26 3 (w.heap.size + 1) w.heap.size (List.replicate n (.slice none 0 0)) (List.replicate n []) := RowsI.made (by rw [← hW]; exact heap_alloc_new _ _) (by omega)
  have hR1 : (List.replicate n ([] : List Int)) = rowsF n (fun v => lowL (es.take 0) v) := (rowsF_nil n _ (fun v => by simp [lowL])).symm
  rw [hR1] at hR0
  have HR0 := Lib.hid hR0
  have HOK := Lib.hid hok
  have hWs : W.heap.size = w.heap.size + 1 := by rw [← hW]; simp
  clear hW hmk hR0 hR1 hok
  go_loopw [14] (fun i wr => ∃ (k : Nat) (vs : List Value), k ≤ es.length ∧ i = .int .i64 k ∧ Hid (RowsI wr 26 3 (w.heap.size + 1) w.heap.size vs (rowsF n (fun v => lowL (es.take k) v))) ∧ Below w.heap.size w wr) (fun i _ => es.length - (intOf i).toNat)
  case atStart => exact ⟨0, _, Nat.zero_le _, rfl, HR0, hbW⟩
  case round =>
    clear HR0 hbW hWs
    clear W
    obtain ⟨k, vs, hk, rfl, hR, hb⟩ := hrel
    by_cases hlt : k < es.length
    · obtain ⟨⟨x, y⟩, hxy⟩ : ∃ e, es[k]? = some e := ⟨es[k], by simp [hlt]⟩
      obtain ⟨b, o, rfl, hbl, e1, e2⟩ := (hr.below hb).pair' k _ hxy
      obtain ⟨x0, x1, y0, y1⟩ := HOK.out _ (List.mem_of_getElem? hxy)
      dsimp only at x0 x1 y0 y1
      obtain ⟨xn, rfl⟩ : ∃ m : Nat, x = m := ⟨x.toNat, by omega⟩
      obtain ⟨yn, rfl⟩ : ∃ m : Nat, y = m := ⟨y.toNat, by omega⟩
      (have yn1 : yn < n := by omega
       have HXY := Lib.hid hxy
       clear hxy
       obtain ⟨v, A1, c1, hv, rfl, hc1, hrd, ho, hcell⟩ := hR.out.get yn _ (rowsF_get _ _ _ yn1)
       have hlow : ((fun v => lowL (es.take k) v) yn).length ≤ es.length + es.length := by simp only; first | (have := lowL_length (es.take k) yn; have := List.length_take_le k es; omega) | (rw [List.length_append]; have := lowL_length es yn; have := highL_length (es.take k) yn; have := List.length_take_le k es; omega)
       have htk := List.length_take_le k es
       have hfz := hR.out.frozen yn
       have hlB := hR.out.lt
       have HV := Lib.hid hv
       have HO := Lib.hid ho
       clear hv ho hrd
       have hl0 : ∃ l, l = (fun v => lowL (es.take k) v) yn := ⟨_, rfl⟩
       obtain ⟨l, hl⟩ := hl0
       simp only [← hl] at hlow hc1 hcell HV HO
       have HL := Lib.hid hl
       clear hl
       have hA1 : Below wr.heap.size wr (wr.alloc (Obj.cells #[Value.int .i64 (xn : Int), Value.int .i64 (yn : Int)] 28)) := by (repeat (first | with_reducible exact Below.refl _ _ | with_reducible assumption | with_reducible refine below_drewN0 ?_ _ | with_reducible refine Below.drew ?_ | with_reducible refine Below.alloc ?_ ?_ _ | with_reducible refine Below.setCell ?_ ?_ _ | go_size))
       have hE := blk2 (heap_alloc_new wr (Obj.cells #[Value.int .i64 (xn : Int), Value.int .i64 (yn : Int)] 28))
       have HS := Lib.hid (fun (w' : World) (h : Below (wr.heap.size + 1) (wr.alloc (Obj.cells #[Value.int .i64 (xn : Int), Value.int .i64 (yn : Int)] 28)) w') => (⟨(h.cell (p := ⟨w.heap.size, yn, none⟩) (by dsimp only; omega)).trans ((Below.cell (p := ⟨w.heap.size, yn, none⟩) hA1 hlB).trans hcell), (h.cell (p := ⟨wr.heap.size, 0, none⟩) (by dsimp only; omega)).trans hE.1, (h.cell (p := ⟨wr.heap.size, 1, none⟩) (by dsimp only; omega)).trans hE.2.1⟩ :
         w'.cell? ⟨w.heap.size, yn, none⟩ = some (.slice A1 l.length c1) ∧ w'.cell? ⟨wr.heap.size, 0, none⟩ = some (.int .i64 (xn : Int)) ∧ w'.cell? ⟨wr.heap.size, 1, none⟩ = some (.int .i64 (yn : Int))))
       go_upto_block 1 with fail
       go_cut [5] (fun v5 wc => ∃ vs' : List Value, v5 = .slice (some ⟨w.heap.size, 0, none⟩) n n ∧ Hid (RowsI wc 26 3 (w.heap.size + 1) w.heap.size vs' (rowsF n (fun v => lowL (es.take (k + 1)) v))) ∧ Below w.heap.size w wc)
       case first =>
         go_wp2_with fail
         go_region_law
           (first
             | (refine step_app EI_int rfl (.tmp 25) (.tmp 28) rfl (w.heap.size + 1) (.slice A1 l.length c1) l.length (icells l) rfl ?_ (some ⟨_, 0, none⟩) 1 1 [.int .i64 (xn : Int)] rfl ?_ rfl ?_ ?_ ?_ ?_
                · exact own_below0 HO.out (by (repeat (first | with_reducible exact Below.refl _ _ | with_reducible assumption | with_reducible refine below_drewN0 ?_ _ | with_reducible refine Below.drew ?_ | with_reducible refine Below.alloc ?_ ?_ _ | with_reducible refine Below.setCell ?_ ?_ _ | go_size)))
                · exact reads_new' wr _ [_] _
                · simp [Value.oneCell']
                · omega
                · go_size
                intro v2 w2 hown2 hg2 hat2
                obtain ⟨A2, c2, rfl, hc2, _⟩ := own_reads0 hown2
                have hne : ∀ g, (g = w.heap.size ∨ g = wr.heap.size) → some g ≠ (Value.slice A1 l.length c1).ownBlock := fun g hg hx => by
                  have h9 := own_lt0 HO.out g hx.symm
                  omega
                have hS1 := HS.out (((wr.alloc (Obj.cells #[Value.int .i64 (xn : Int), Value.int .i64 (yn : Int)] 28)).alloc (Obj.cells #[Value.int .i64 (xn : Int)] 3)).drew) (by (repeat (first | with_reducible exact Below.refl _ _ | with_reducible assumption | with_reducible refine below_drewN0 ?_ _ | with_reducible refine Below.drew ?_ | with_reducible refine Below.alloc ?_ ?_ _ | with_reducible refine Below.setCell ?_ ?_ _ | go_size)))
                have hS2 := (⟨hg2.cell hS1.1 (hne _ (.inl rfl)), hg2.cell hS1.2.1 (hne _ (.inr rfl)), hg2.cell hS1.2.2 (hne _ (.inr rfl))⟩ : w2.cell? ⟨w.heap.size, yn, none⟩ = some (.slice A1 l.length c1) ∧ w2.cell? ⟨wr.heap.size, 0, none⟩ = some (.int .i64 (xn : Int)) ∧ w2.cell? ⟨wr.heap.size, 1, none⟩ = some (.int .i64 (yn : Int)))
                obtain ⟨s0, s1, s2⟩ := id hS2
                have hz2 : w2.frozen? ⟨w.heap.size, yn, none⟩ = false := (World.frozen?_of_block (w := (((wr.alloc (Obj.cells #[Value.int .i64 (xn : Int), Value.int .i64 (yn : Int)] 28)).alloc (Obj.cells #[Value.int .i64 (xn : Int)] 3)).drew)) (hg2.block w.heap.size (by simp; omega) (hne _ (.inl rfl)))).trans ((Below.frozen (B := wr.heap.size) (w := wr) (p := ⟨w.heap.size, yn, none⟩) (by (repeat (first | with_reducible exact Below.refl _ _ | with_reducible assumption | with_reducible refine below_drewN0 ?_ _ | with_reducible refine Below.drew ?_ | with_reducible refine Below.alloc ?_ ?_ _ | with_reducible refine Below.setCell ?_ ?_ _ | go_size))) hlB).trans hfz)))
         all_goals
           go_wp2_with fail
           go_meet
           have hR2 := RowsI.store (hR.out.below (w' := (((wr.alloc (Obj.cells #[Value.int .i64 (xn : Int), Value.int .i64 (yn : Int)] 28)).alloc (Obj.cells #[Value.int .i64 (xn : Int)] 3)).drew)) (B' := wr.heap.size) (by (repeat (first | with_reducible exact Below.refl _ _ | with_reducible assumption | with_reducible refine below_drewN0 ?_ _ | with_reducible refine Below.drew ?_ | with_reducible refine Below.alloc ?_ ?_ _ | with_reducible refine Below.setCell ?_ ?_ _ | go_size))) (Nat.le_refl _)) yn HV.out (l' := l ++ [(xn : Int)]) (own_cast hown2 (Nat.le_refl _) (by simp) (by simp [icells])) hg2 hat2
           rw [rowsF_set n _ (fun v => lowL (es.take (k + 1)) v) yn yn1 _ (by (rw [lowL_one es k xn yn HXY.out, if_pos rfl, HL.out])) (fun v hv => by (rw [lowL_one es k xn yn HXY.out, if_neg (by omega)]))] at hR2
           have hb9 := Below.grown (Below.trans hb (Below.mono (B := wr.heap.size) (by (repeat (first | with_reducible exact Below.refl _ _ | with_reducible assumption | with_reducible refine below_drewN0 ?_ _ | with_reducible refine Below.drew ?_ | with_reducible refine Below.alloc ?_ ?_ _ | with_reducible refine Below.setCell ?_ ?_ _ | go_size))) hb.size)) hg2 (by have := hb.size; go_size) (fun g hg => by have := (own_lt0 HO.out g hg).1; omega)
           exact ⟨_, rfl, hR2, hb9.setCell (p := ⟨w.heap.size, yn, none⟩) (Nat.le_refl _) _⟩
       case rest =>
         obtain ⟨vs', rfl, hR', hbc⟩ := hcut
         go_wp2_with fail
         go_roundw
         case rel => exact ⟨k + 1, vs', by omega, by go_num, hR', hbc⟩
         case measure => simp [intOf]; omega)
    · obtain rfl : k = es.length := by omega
      have hR1 : rowsF n (fun v => lowL (es.take es.length) v) = rowsF n (fun v => lowL es v ++ highL (es.take 0) v) := rowsF_congr n _ _ (fun v _ => by simp [highL])
      rw [hR1] at hR
      clear hR1
      go_wp2_with fail
      go_loopw [34] (fun i wr => ∃ (k : Nat) (vs : List Value), k ≤ es.length ∧ i = .int .i64 k ∧ Hid (RowsI wr 26 3 (w.heap.size + 1) w.heap.size vs (rowsF n (fun v => lowL es v ++ highL (es.take k) v))) ∧ Below w.heap.size w wr) (fun i _ => es.length - (intOf i).toNat)
      case atStart => exact ⟨0, _, Nat.zero_le _, rfl, hR, hb⟩
      case round =>
        clear hR hb hlt hk
        obtain ⟨k, vs, hk, rfl, hR, hb⟩ := hrel
        by_cases hlt : k < es.length
        · obtain ⟨⟨x, y⟩, hxy⟩ : ∃ e, es[k]? = some e := ⟨es[k], by simp [hlt]⟩
          obtain ⟨b, o, rfl, hbl, e1, e2⟩ := (hr.below hb).pair' k _ hxy
          obtain ⟨x0, x1, y0, y1⟩ := HOK.out _ (List.mem_of_getElem? hxy)
          dsimp only at x0 x1 y0 y1
          obtain ⟨xn, rfl⟩ : ∃ m : Nat, x = m := ⟨x.toNat, by omega⟩
          obtain ⟨yn, rfl⟩ : ∃ m : Nat, y = m := ⟨y.toNat, by omega⟩
          (have yn1 : xn < n := by omega
           have HXY := Lib.hid hxy
           clear hxy
           obtain ⟨v, A1, c1, hv, rfl, hc1, hrd, ho, hcell⟩ := hR.out.get xn _ (rowsF_get _ _ _ yn1)
           have hlow : ((fun v => lowL es v ++ highL (es.take k) v) xn).length ≤ es.length + es.length := by simp only; first | (have := lowL_length (es.take k) xn; have := List.length_take_le k es; omega) | (rw [List.length_append]; have := lowL_length es xn; have := highL_length (es.take k) xn; have := List.length_take_le k es; omega)
           have htk := List.length_take_le k es
           have hfz := hR.out.frozen xn
           have hlB := hR.out.lt
           have HV := Lib.hid hv
           have HO := Lib.hid ho
           clear hv ho hrd
           have hl0 : ∃ l, l = (fun v => lowL es v ++ highL (es.take k) v) xn := ⟨_, rfl⟩
           obtain ⟨l, hl⟩ := hl0
           simp only [← hl] at hlow hc1 hcell HV HO
           have HL := Lib.hid hl
           clear hl
           have hA1 : Below wr.heap.size wr (wr.alloc (Obj.cells #[Value.int .i64 (xn : Int), Value.int .i64 (yn : Int)] 28)) := by (repeat (first | with_reducible exact Below.refl _ _ | with_reducible assumption | with_reducible refine below_drewN0 ?_ _ | with_reducible refine Below.drew ?_ | with_reducible refine Below.alloc ?_ ?_ _ | with_reducible refine Below.setCell ?_ ?_ _ | go_size))
           have hE := blk2 (heap_alloc_new wr (Obj.cells #[Value.int .i64 (xn : Int), Value.int .i64 (yn : Int)] 28))
           have HS := Lib.hid (fun (w' : World) (h : Below (wr.heap.size + 1) (wr.alloc (Obj.cells #[Value.int .i64 (xn : Int), Value.int .i64 (yn : Int)] 28)) w') => (⟨(h.cell (p := ⟨w.heap.size, xn, none⟩) (by dsimp only; omega)).trans ((Below.cell (p := ⟨w.heap.size, xn, none⟩) hA1 hlB).trans hcell), (h.cell (p := ⟨wr.heap.size, 0, none⟩) (by dsimp only; omega)).trans hE.1, (h.cell (p := ⟨wr.heap.size, 1, none⟩) (by dsimp only; omega)).trans hE.2.1⟩ :
             w'.cell? ⟨w.heap.size, xn, none⟩ = some (.slice A1 l.length c1) ∧ w'.cell? ⟨wr.heap.size, 0, none⟩ = some (.int .i64 (xn : Int)) ∧ w'.cell? ⟨wr.heap.size, 1, none⟩ = some (.int .i64 (yn : Int))))
           go_upto_block 3 with fail
           go_cut [5] (fun v5 wc => ∃ vs' : List Value, v5 = .slice (some ⟨w.heap.size, 0, none⟩) n n ∧ Hid (RowsI wc 26 3 (w.heap.size + 1) w.heap.size vs' (rowsF n (fun v => lowL es v ++ highL (es.take (k + 1)) v))) ∧ Below w.heap.size w wc)
           case first =>
             go_wp2_with fail
             go_region_law
               (first
                 | (refine step_app EI_int rfl (.tmp 45) (.tmp 48) rfl (w.heap.size + 1) (.slice A1 l.length c1) l.length (icells l) rfl ?_ (some ⟨_, 0, none⟩) 1 1 [.int .i64 (yn : Int)] rfl ?_ rfl ?_ ?_ ?_ ?_
                    · exact own_below0 HO.out (by (repeat (first | with_reducible exact Below.refl _ _ | with_reducible assumption | with_reducible refine below_drewN0 ?_ _ | with_reducible refine Below.drew ?_ | with_reducible refine Below.alloc ?_ ?_ _ | with_reducible refine Below.setCell ?_ ?_ _ | go_size)))
                    · exact reads_new' wr _ [_] _
                    · simp [Value.oneCell']
                    · omega
                    · go_size
                    intro v2 w2 hown2 hg2 hat2
                    obtain ⟨A2, c2, rfl, hc2, _⟩ := own_reads0 hown2
                    have hne : ∀ g, (g = w.heap.size ∨ g = wr.heap.size) → some g ≠ (Value.slice A1 l.length c1).ownBlock := fun g hg hx => by
                      have h9 := own_lt0 HO.out g hx.symm
                      omega
                    have hS1 := HS.out (((wr.alloc (Obj.cells #[Value.int .i64 (xn : Int), Value.int .i64 (yn : Int)] 28)).alloc (Obj.cells #[Value.int .i64 (yn : Int)] 3)).drew) (by (repeat (first | with_reducible exact Below.refl _ _ | with_reducible assumption | with_reducible refine below_drewN0 ?_ _ | with_reducible refine Below.drew ?_ | with_reducible refine Below.alloc ?_ ?_ _ | with_reducible refine Below.setCell ?_ ?_ _ | go_size)))
                    have hS2 := (⟨hg2.cell hS1.1 (hne _ (.inl rfl)), hg2.cell hS1.2.1 (hne _ (.inr rfl)), hg2.cell hS1.2.2 (hne _ (.inr rfl))⟩ : w2.cell? ⟨w.heap.size, xn, none⟩ = some (.slice A1 l.length c1) ∧ w2.cell? ⟨wr.heap.size, 0, none⟩ = some (.int .i64 (xn : Int)) ∧ w2.cell? ⟨wr.heap.size, 1, none⟩ = some (.int .i64 (yn : Int)))
                    obtain ⟨s0, s1, s2⟩ := id hS2
                    have hz2 : w2.frozen? ⟨w.heap.size, xn, none⟩ = false := (World.frozen?_of_block (w := (((wr.alloc (Obj.cells #[Value.int .i64 (xn : Int), Value.int .i64 (yn : Int)] 28)).alloc (Obj.cells #[Value.int .i64 (yn : Int)] 3)).drew)) (hg2.block w.heap.size (by simp; omega) (hne _ (.inl rfl)))).trans ((Below.frozen (B := wr.heap.size) (w := wr) (p := ⟨w.heap.size, xn, none⟩) (by (repeat (first | with_reducible exact Below.refl _ _ | with_reducible assumption | with_reducible refine below_drewN0 ?_ _ | with_reducible refine Below.drew ?_ | with_reducible refine Below.alloc ?_ ?_ _ | with_reducible refine Below.setCell ?_ ?_ _ | go_size))) hlB).trans hfz)))
             all_goals
               go_wp2_with fail
               go_meet
               have hR2 := RowsI.store (hR.out.below (w' := (((wr.alloc (Obj.cells #[Value.int .i64 (xn : Int), Value.int .i64 (yn : Int)] 28)).alloc (Obj.cells #[Value.int .i64 (yn : Int)] 3)).drew)) (B' := wr.heap.size) (by (repeat (first | with_reducible exact Below.refl _ _ | with_reducible assumption | with_reducible refine below_drewN0 ?_ _ | with_reducible refine Below.drew ?_ | with_reducible refine Below.alloc ?_ ?_ _ | with_reducible refine Below.setCell ?_ ?_ _ | go_size))) (Nat.le_refl _)) xn HV.out (l' := l ++ [(yn : Int)]) (own_cast hown2 (Nat.le_refl _) (by simp) (by simp [icells])) hg2 hat2
               rw [rowsF_set n _ (fun v => lowL es v ++ highL (es.take (k + 1)) v) xn yn1 _ (by (rw [highL_one es k xn yn HXY.out, if_pos rfl, HL.out, List.append_assoc])) (fun v hv => by (rw [highL_one es k xn yn HXY.out, if_neg (by omega)]))] at hR2
               have hb9 := Below.grown (Below.trans hb (Below.mono (B := wr.heap.size) (by (repeat (first | with_reducible exact Below.refl _ _ | with_reducible assumption | with_reducible refine below_drewN0 ?_ _ | with_reducible refine Below.drew ?_ | with_reducible refine Below.alloc ?_ ?_ _ | with_reducible refine Below.setCell ?_ ?_ _ | go_size))) hb.size)) hg2 (by have := hb.size; go_size) (fun g hg => by have := (own_lt0 HO.out g hg).1; omega)
               exact ⟨_, rfl, hR2, hb9.setCell (p := ⟨w.heap.size, xn, none⟩) (Nat.le_refl _) _⟩
           case rest =>
             obtain ⟨vs', rfl, hR', hbc⟩ := hcut
             go_wp2_with fail
             go_roundw
             case rel => exact ⟨k + 1, vs', by omega, by go_num, hR', hbc⟩
             case measure => simp [intOf]; omega)
        · obtain rfl : k = es.length := by omega
          rw [List.take_length] at hR
          go_wp2_with fail
          go_ret
          exact ⟨_, vs, rfl, Nat.le_refl _, hR, hb⟩

end Go.Proofs.Ytglhdoibglafbaa
