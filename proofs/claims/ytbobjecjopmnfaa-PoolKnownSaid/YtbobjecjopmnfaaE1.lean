/- The walks of Put and Defer (the reference's). -/
import Derived.Test.YtbobjecjopmnfaaD2
namespace Go.Proofs.Ytbobjecjopmnfaa
open Go.RowKit
theorem rmay_b {k : Int} {nm : ByteArray} {ar pl : Int} {b : Bool} (hb : may ⟨k, nm, ar, pl⟩ = b) (w : World) :
    Calls Try.prog 56 #[.agg #[.int .u8 k, .string nm, .int .i64 ar, .int .i64 pl]] w fun e w' => e = .returned (.bool b) ∧ Below w.heap.size w w' := by
  subst hb
  exact rmay_any k nm ar pl w

theorem r_facts {w W : World} {g : Nat} {room : Int} {v0 v1 v2 : Value} (hb : w.heap[g]? = some (.cells #[.int .i64 room, v0, v1, v2] 92 (0, 0))) (hB : Below w.heap.size w W) :
    g < W.heap.size ∧ W.cell? ⟨g, 1, none⟩ = some v0 ∧ W.cell? ⟨g, 2, none⟩ = some v1 ∧ W.cell? ⟨g, 3, none⟩ = some v2 := by
  have hbW := (hB.block g (blk_lt hb)).trans hb
  exact ⟨blk_lt hbW, blk_cell hbW 1, blk_cell hbW 2, blk_cell hbW 3⟩

theorem r_behind0 {w W w4 : World} {g n : Nat} {room : Int} {v0 v1 v2 : Value} {xs : List Value} (hb : w.heap[g]? = some (.cells #[.int .i64 room, v0, v1, v2] 92 (0, 0))) (h : Row w 94 4 v0 n xs) (hB' : Below w.heap.size w W)
    (ho : Only (Fp v0) W w4) : w4.cell? ⟨g, 1, none⟩ = some v0 ∧ w4.frozen? ⟨g, 1, none⟩ = false ∧ g < w4.heap.size ∧ Hid (Below w.heap.size w W) := by
  have hbW := (hB'.block g (blk_lt hb)).trans hb
  have hb4 := (ho.block g (blk_lt hbW) (h.ne_ hb (by decide))).trans hbW
  exact ⟨blk_cell hb4 1, blk_frozen hb4 1, blk_lt hb4, hB'⟩

theorem r_behind1 {w W w4 : World} {g n : Nat} {room : Int} {v0 v1 v2 : Value} {xs : List Value} (hb : w.heap[g]? = some (.cells #[.int .i64 room, v0, v1, v2] 92 (0, 0))) (h : Row w 94 4 v1 n xs) (hB' : Below w.heap.size w W)
    (ho : Only (Fp v1) W w4) : w4.cell? ⟨g, 2, none⟩ = some v1 ∧ w4.frozen? ⟨g, 2, none⟩ = false ∧ g < w4.heap.size ∧ Hid (Below w.heap.size w W) := by
  have hbW := (hB'.block g (blk_lt hb)).trans hb
  have hb4 := (ho.block g (blk_lt hbW) (h.ne_ hb (by decide))).trans hbW
  exact ⟨blk_cell hb4 2, blk_frozen hb4 2, blk_lt hb4, hB'⟩

theorem r_behind2 {w W w4 : World} {g n : Nat} {room : Int} {v0 v1 v2 : Value} {xs : List Value} (hb : w.heap[g]? = some (.cells #[.int .i64 room, v0, v1, v2] 92 (0, 0))) (h : Row w 94 4 v2 n xs) (hB' : Below w.heap.size w W)
    (ho : Only (Fp v2) W w4) : w4.cell? ⟨g, 3, none⟩ = some v2 ∧ w4.frozen? ⟨g, 3, none⟩ = false ∧ g < w4.heap.size ∧ Hid (Below w.heap.size w W) := by
  have hbW := (hB'.block g (blk_lt hb)).trans hb
  have hb4 := (ho.block g (blk_lt hbW) (h.ne_ hb (by decide))).trans hbW
  exact ⟨blk_cell hb4 3, blk_frozen hb4 3, blk_lt hb4, hB'⟩

set_option maxHeartbeats 1000000 in
theorem rput1_ok {g : Nat} {ok : Nat → Prop} {room : Int} {D R F : List Ev} (k : Int) (nm : ByteArray) (ar pl : Int) (w : World) (h : At w 92 94 ok g ⟨room, D, R, F⟩) (hroom : ((M.mk room D R F).len : Int) < room) (hm : may ⟨k, nm, ar, pl⟩ = true) (hk : (k == 1) = true)
    (hOk : M.Ok ⟨room, D ++ [⟨k, nm, ar, pl⟩], R, F⟩) :
    Calls Try.prog 57 #[.pointer (some ⟨g, 0, none⟩), .agg #[.int .u8 k, .string nm, .int .i64 ar, .int .i64 pl]] w fun e w' => e = .returned (.int .i64 0) ∧ Turned 92 94 ok g ⟨room, D ++ [⟨k, nm, ar, pl⟩], R, F⟩ w w' := by
  have hs := h.small
  have HAt := hide h
  have HM := hide hm
  obtain ⟨v0, v1, v2, hb, h0, h1, h2, a01, a02, a12, hok, hltok, _⟩ := h
  simp only at hb h0 h1 h2 hs
  obtain ⟨A, ca, rfl, _⟩ := h0.slice_
  obtain ⟨B, cb, rfl, _⟩ := h1.slice_
  obtain ⟨C, cc, rfl, _⟩ := h2.slice_
  simp only [M.len] at hroom
  have hlt := blk_lt hb
  have hr' : decide (room ≤ (D.length : Int) + R.length + F.length) = false := by simp; omega
  have HB := hide hb
  have H0 := hide h0
  have H1 := hide h1
  have H2 := hide h2
  have HA : Hid (Apart (.slice A D.length ca) (.slice B R.length cb) ∧ Apart (.slice A D.length ca) (.slice C F.length cc) ∧ Apart (.slice B R.length cb) (.slice C F.length cc)) := ⟨a01, a02, a12⟩
  have HO := hide hok
  have HL := hide hltok
  clear hb h0 h1 h2 a01 a02 a12 hok hltok hm
  go_enter Try.func57, Try.ntmps57
  go_wp2_with ((go_at_call 56); refine (rmay_b HM.out _).mono ?_; rintro e w2 ⟨rfl, hb2⟩; have hbx := box_below hb2; have k0 := blk_cell hbx 0; have k1 := blk_cell hbx 1; have k2 := blk_cell hbx 2; have k3 := blk_cell hbx 3; simp at k0 k1 k2 k3; have hB2 := below_then ((Below.refl _ _).alloc (Nat.le_refl _) _) hb2; have hg2 := (hB2.block g hlt).trans HB.out; have c0 := blk_cell hg2 0; have c1 := blk_cell hg2 1; have c2 := blk_cell hg2 2; have c3 := blk_cell hg2 3; simp at c0 c1 c2 c3; have HX2 := hide hbx; have HB2 := hide hB2; clear hb2 hB2 hg2 hbx)
  go_quiet ((go_at_call 58; exact Calls.quiet_of (rlen_raw g A B C D.length R.length F.length ca cb cc _ (by omega) c1 c2 c3)))
  have P := hide (below_drewN HB2.out nq)
  have P2 : Hid ((w2.drewN nq).heap[w.heap.size]? = some (.cells #[.int .u8 k, .string nm, .int .i64 ar, .int .i64 pl] 94 (0, 0))) := HX2.out
  clear c0 c1 c2 c3 k0 k1 k2 k3 HB2 HX2
  revert P P2
  generalize w2.drewN nq = w3
  intro P P2
  obtain ⟨hlt3, c1, c2, c3⟩ := r_facts HB.out P.out
  have hltx := blk_lt P2.out
  have k0 := blk_cell P2.out 0
  have k1 := blk_cell P2.out 1
  have k2 := blk_cell P2.out 2
  have k3 := blk_cell P2.out 3
  simp at k0 k1 k2 k3
  go_wp2
  go_region_law (refine step_append_row _ rfl (.tmp 35) (.tmp 37) 48 94 rfl _ 4 40 Try.underlying48 info94 rfl (by decide) (by decide) (.slice A D.length ca) D.length (cells D) rfl (by repeat (first | exact H0.out.below P.out | apply Row.alloc | apply Row.drewN | apply Row.drew)) (fun _ => True) _ 1 (cells [⟨k, nm, ar, pl⟩]) rfl (rd_one (t := 94) (blk_new (by simp))) (cells_one _) (by omega) ?_; intro A' c' w4 hrow' honly hfp; rw [← cells_append] at hrow'; obtain ⟨d1, f1, hlt4, HW⟩ := r_behind0 HB.out H0.out (by repeat (first | exact P.out | refine Below.drew ?_ | refine below_drewN ?_ _ | refine Below.alloc ?_ (by have := P.out.size; simp; try omega) _)) honly; have HR := hide hrow'; have HY := hide honly; have HF := hide hfp; clear hrow' honly hfp)
  all_goals
    go_wp2
    go_ret
    refine ⟨rfl, At.row0 HB.out H0.out H1.out H2.out HA.out.1 HA.out.2.1 HA.out.2.2 HO.out HL.out (by decide) HW.out HY.out (by rw [List.length_append]; exact HR.out) HF.out hOk⟩

set_option maxHeartbeats 1000000 in
theorem rput0_ok {g : Nat} {ok : Nat → Prop} {room : Int} {D R F : List Ev} (k : Int) (nm : ByteArray) (ar pl : Int) (w : World) (h : At w 92 94 ok g ⟨room, D, R, F⟩) (hroom : ((M.mk room D R F).len : Int) < room) (hm : may ⟨k, nm, ar, pl⟩ = true) (hk : (k == 1) = false)
    (hOk : M.Ok ⟨room, D, R ++ [⟨k, nm, ar, pl⟩], F⟩) :
    Calls Try.prog 57 #[.pointer (some ⟨g, 0, none⟩), .agg #[.int .u8 k, .string nm, .int .i64 ar, .int .i64 pl]] w fun e w' => e = .returned (.int .i64 0) ∧ Turned 92 94 ok g ⟨room, D, R ++ [⟨k, nm, ar, pl⟩], F⟩ w w' := by
  have hs := h.small
  have HAt := hide h
  have HM := hide hm
  obtain ⟨v0, v1, v2, hb, h0, h1, h2, a01, a02, a12, hok, hltok, _⟩ := h
  simp only at hb h0 h1 h2 hs
  obtain ⟨A, ca, rfl, _⟩ := h0.slice_
  obtain ⟨B, cb, rfl, _⟩ := h1.slice_
  obtain ⟨C, cc, rfl, _⟩ := h2.slice_
  simp only [M.len] at hroom
  have hlt := blk_lt hb
  have hr' : decide (room ≤ (D.length : Int) + R.length + F.length) = false := by simp; omega
  have HB := hide hb
  have H0 := hide h0
  have H1 := hide h1
  have H2 := hide h2
  have HA : Hid (Apart (.slice A D.length ca) (.slice B R.length cb) ∧ Apart (.slice A D.length ca) (.slice C F.length cc) ∧ Apart (.slice B R.length cb) (.slice C F.length cc)) := ⟨a01, a02, a12⟩
  have HO := hide hok
  have HL := hide hltok
  clear hb h0 h1 h2 a01 a02 a12 hok hltok hm
  go_enter Try.func57, Try.ntmps57
  go_wp2_with ((go_at_call 56); refine (rmay_b HM.out _).mono ?_; rintro e w2 ⟨rfl, hb2⟩; have hbx := box_below hb2; have k0 := blk_cell hbx 0; have k1 := blk_cell hbx 1; have k2 := blk_cell hbx 2; have k3 := blk_cell hbx 3; simp at k0 k1 k2 k3; have hB2 := below_then ((Below.refl _ _).alloc (Nat.le_refl _) _) hb2; have hg2 := (hB2.block g hlt).trans HB.out; have c0 := blk_cell hg2 0; have c1 := blk_cell hg2 1; have c2 := blk_cell hg2 2; have c3 := blk_cell hg2 3; simp at c0 c1 c2 c3; have HX2 := hide hbx; have HB2 := hide hB2; clear hb2 hB2 hg2 hbx)
  go_quiet ((go_at_call 58; exact Calls.quiet_of (rlen_raw g A B C D.length R.length F.length ca cb cc _ (by omega) c1 c2 c3)))
  have P := hide (below_drewN HB2.out nq)
  have P2 : Hid ((w2.drewN nq).heap[w.heap.size]? = some (.cells #[.int .u8 k, .string nm, .int .i64 ar, .int .i64 pl] 94 (0, 0))) := HX2.out
  clear c0 c1 c2 c3 k0 k1 k2 k3 HB2 HX2
  revert P P2
  generalize w2.drewN nq = w3
  intro P P2
  obtain ⟨hlt3, c1, c2, c3⟩ := r_facts HB.out P.out
  have hltx := blk_lt P2.out
  have k0 := blk_cell P2.out 0
  have k1 := blk_cell P2.out 1
  have k2 := blk_cell P2.out 2
  have k3 := blk_cell P2.out 3
  simp at k0 k1 k2 k3
  go_wp2
  go_region_law (refine step_append_row _ rfl (.tmp 9) (.tmp 11) 48 94 rfl _ 4 40 Try.underlying48 info94 rfl (by decide) (by decide) (.slice B R.length cb) R.length (cells R) rfl (by repeat (first | exact H1.out.below P.out | apply Row.alloc | apply Row.drewN | apply Row.drew)) (fun _ => True) _ 1 (cells [⟨k, nm, ar, pl⟩]) rfl (rd_one (t := 94) (blk_new (by simp))) (cells_one _) (by omega) ?_; intro A' c' w4 hrow' honly hfp; rw [← cells_append] at hrow'; obtain ⟨d1, f1, hlt4, HW⟩ := r_behind1 HB.out H1.out (by repeat (first | exact P.out | refine Below.drew ?_ | refine below_drewN ?_ _ | refine Below.alloc ?_ (by have := P.out.size; simp; try omega) _)) honly; have HR := hide hrow'; have HY := hide honly; have HF := hide hfp; clear hrow' honly hfp)
  all_goals
    go_wp2
    go_ret
    refine ⟨rfl, At.row1 HB.out H0.out H1.out H2.out HA.out.1 HA.out.2.1 HA.out.2.2 HO.out HL.out (by decide) HW.out HY.out (by rw [List.length_append]; exact HR.out) HF.out hOk⟩

set_option maxHeartbeats 1000000 in
theorem rdefer_ok {g : Nat} {ok : Nat → Prop} {room : Int} {D R F : List Ev} (k : Int) (nm : ByteArray) (ar pl : Int) (w : World) (h : At w 92 94 ok g ⟨room, D, R, F⟩) (hroom : ((M.mk room D R F).len : Int) < room) (hm : may ⟨k, nm, ar, pl⟩ = true) (hk : (k != 2) = false)
    (hOk : M.Ok ⟨room, D, R, F ++ [⟨k, nm, ar, pl⟩]⟩) :
    Calls Try.prog 50 #[.pointer (some ⟨g, 0, none⟩), .agg #[.int .u8 k, .string nm, .int .i64 ar, .int .i64 pl]] w fun e w' => e = .returned (.int .i64 0) ∧ Turned 92 94 ok g ⟨room, D, R, F ++ [⟨k, nm, ar, pl⟩]⟩ w w' := by
  have hs := h.small
  have HAt := hide h
  have HM := hide hm
  obtain ⟨v0, v1, v2, hb, h0, h1, h2, a01, a02, a12, hok, hltok, _⟩ := h
  simp only at hb h0 h1 h2 hs
  obtain ⟨A, ca, rfl, _⟩ := h0.slice_
  obtain ⟨B, cb, rfl, _⟩ := h1.slice_
  obtain ⟨C, cc, rfl, _⟩ := h2.slice_
  simp only [M.len] at hroom
  have hlt := blk_lt hb
  have hr' : decide (room ≤ (D.length : Int) + R.length + F.length) = false := by simp; omega
  have HB := hide hb
  have H0 := hide h0
  have H1 := hide h1
  have H2 := hide h2
  have HA : Hid (Apart (.slice A D.length ca) (.slice B R.length cb) ∧ Apart (.slice A D.length ca) (.slice C F.length cc) ∧ Apart (.slice B R.length cb) (.slice C F.length cc)) := ⟨a01, a02, a12⟩
  have HO := hide hok
  have HL := hide hltok
  clear hb h0 h1 h2 a01 a02 a12 hok hltok hm
  go_enter Try.func50, Try.ntmps50
  go_wp2_with ((go_at_call 56); refine (rmay_b HM.out _).mono ?_; rintro e w2 ⟨rfl, hb2⟩; have hbx := box_below hb2; have k0 := blk_cell hbx 0; have k1 := blk_cell hbx 1; have k2 := blk_cell hbx 2; have k3 := blk_cell hbx 3; simp at k0 k1 k2 k3; have hB2 := below_then ((Below.refl _ _).alloc (Nat.le_refl _) _) hb2; have hg2 := (hB2.block g hlt).trans HB.out; have c0 := blk_cell hg2 0; have c1 := blk_cell hg2 1; have c2 := blk_cell hg2 2; have c3 := blk_cell hg2 3; simp at c0 c1 c2 c3; have HX2 := hide hbx; have HB2 := hide hB2; clear hb2 hB2 hg2 hbx)
  go_quiet ((go_at_call 58; exact Calls.quiet_of (rlen_raw g A B C D.length R.length F.length ca cb cc _ (by omega) c1 c2 c3)))
  have P := hide (below_drewN HB2.out nq)
  have P2 : Hid ((w2.drewN nq).heap[w.heap.size]? = some (.cells #[.int .u8 k, .string nm, .int .i64 ar, .int .i64 pl] 94 (0, 0))) := HX2.out
  clear c0 c1 c2 c3 k0 k1 k2 k3 HB2 HX2
  revert P P2
  generalize w2.drewN nq = w3
  intro P P2
  obtain ⟨hlt3, c1, c2, c3⟩ := r_facts HB.out P.out
  have hltx := blk_lt P2.out
  have k0 := blk_cell P2.out 0
  have k1 := blk_cell P2.out 1
  have k2 := blk_cell P2.out 2
  have k3 := blk_cell P2.out 3
  simp at k0 k1 k2 k3
  go_wp2
  go_region_law (refine step_append_row _ rfl (.tmp 26) (.tmp 28) 48 94 rfl _ 4 40 Try.underlying48 info94 rfl (by decide) (by decide) (.slice C F.length cc) F.length (cells F) rfl (by repeat (first | exact H2.out.below P.out | apply Row.alloc | apply Row.drewN | apply Row.drew)) (fun _ => True) _ 1 (cells [⟨k, nm, ar, pl⟩]) rfl (rd_one (t := 94) (blk_new (by simp))) (cells_one _) (by omega) ?_; intro A' c' w4 hrow' honly hfp; rw [← cells_append] at hrow'; obtain ⟨d1, f1, hlt4, HW⟩ := r_behind2 HB.out H2.out (by repeat (first | exact P.out | refine Below.drew ?_ | refine below_drewN ?_ _ | refine Below.alloc ?_ (by have := P.out.size; simp; try omega) _)) honly; have HR := hide hrow'; have HY := hide honly; have HF := hide hfp; clear hrow' honly hfp)
  all_goals
    go_wp2
    go_ret
    refine ⟨rfl, At.row2 HB.out H0.out H1.out H2.out HA.out.1 HA.out.2.1 HA.out.2.2 HO.out HL.out (by decide) HW.out HY.out (by rw [List.length_append]; exact HR.out) HF.out hOk⟩

set_option maxHeartbeats 1000000 in
theorem rput_full {g : Nat} {m : M} {ok : Nat → Prop} (k : Int) (nm : ByteArray) (ar pl : Int) (w : World) (h : At w 92 94 ok g m) (hroom : m.room ≤ m.len) (hm : may ⟨k, nm, ar, pl⟩ = true)  :
    Calls Try.prog 57 #[.pointer (some ⟨g, 0, none⟩), .agg #[.int .u8 k, .string nm, .int .i64 ar, .int .i64 pl]] w fun e w' => e = .returned (.int .i64 240) ∧ Below w.heap.size w w' := by
  have hs := h.small
  obtain ⟨A, B, C, ca, cb, cc, hb⟩ := h.slices
  obtain ⟨room, D, R, F⟩ := m
  simp only at hb hs
  simp only [M.len] at hroom
  have hlt := blk_lt hb
  have HM := hide hm
  have HB := hide hb
  have hr' : decide (room ≤ (D.length : Int) + R.length + F.length) = true := by simp; omega
  clear hb h hm
  go_enter Try.func57, Try.ntmps57
  go_wp2_with ((go_at_call 56); refine (rmay_b HM.out _).mono ?_; rintro e w2 ⟨rfl, hb2⟩; have hbx := box_below hb2; have k0 := blk_cell hbx 0; simp at k0; have hB2 := below_then ((Below.refl _ _).alloc (Nat.le_refl _) _) hb2; have hg2 := (hB2.block g hlt).trans HB.out; have c0 := blk_cell hg2 0; have c1 := blk_cell hg2 1; have c2 := blk_cell hg2 2; have c3 := blk_cell hg2 3; simp at c0 c1 c2 c3; have hlt2 := blk_lt hg2; have hltx := blk_lt hbx; have HB2 := hide hB2; clear hb2 hB2 hg2 hbx)
  go_quiet ((go_at_call 58; exact Calls.quiet_of (rlen_raw g A B C D.length R.length F.length ca cb cc _ (by omega) c1 c2 c3)))
  go_wp2
  go_ret
  exact ⟨rfl, below_drewN HB2.out _⟩

set_option maxHeartbeats 1000000 in
theorem rdefer_full {g : Nat} {m : M} {ok : Nat → Prop} (k : Int) (nm : ByteArray) (ar pl : Int) (w : World) (h : At w 92 94 ok g m) (hroom : m.room ≤ m.len) (hm : may ⟨k, nm, ar, pl⟩ = true) (hk : (k != 2) = false) :
    Calls Try.prog 50 #[.pointer (some ⟨g, 0, none⟩), .agg #[.int .u8 k, .string nm, .int .i64 ar, .int .i64 pl]] w fun e w' => e = .returned (.int .i64 240) ∧ Below w.heap.size w w' := by
  have hs := h.small
  obtain ⟨A, B, C, ca, cb, cc, hb⟩ := h.slices
  obtain ⟨room, D, R, F⟩ := m
  simp only at hb hs
  simp only [M.len] at hroom
  have hlt := blk_lt hb
  have HM := hide hm
  have HB := hide hb
  have hr' : decide (room ≤ (D.length : Int) + R.length + F.length) = true := by simp; omega
  clear hb h hm
  go_enter Try.func50, Try.ntmps50
  go_wp2_with ((go_at_call 56); refine (rmay_b HM.out _).mono ?_; rintro e w2 ⟨rfl, hb2⟩; have hbx := box_below hb2; have k0 := blk_cell hbx 0; simp at k0; have hB2 := below_then ((Below.refl _ _).alloc (Nat.le_refl _) _) hb2; have hg2 := (hB2.block g hlt).trans HB.out; have c0 := blk_cell hg2 0; have c1 := blk_cell hg2 1; have c2 := blk_cell hg2 2; have c3 := blk_cell hg2 3; simp at c0 c1 c2 c3; have hlt2 := blk_lt hg2; have hltx := blk_lt hbx; have HB2 := hide hB2; clear hb2 hB2 hg2 hbx)
  go_quiet ((go_at_call 58; exact Calls.quiet_of (rlen_raw g A B C D.length R.length F.length ca cb cc _ (by omega) c1 c2 c3)))
  go_wp2
  go_ret
  exact ⟨rfl, below_drewN HB2.out _⟩

theorem rput_bad (g : Nat) (k : Int) (nm : ByteArray) (ar pl : Int) (w : World) (hm : may ⟨k, nm, ar, pl⟩ = false) :
    Calls Try.prog 57 #[.pointer (some ⟨g, 0, none⟩), .agg #[.int .u8 k, .string nm, .int .i64 ar, .int .i64 pl]] w fun e w' => e = .returned (.int .i64 2) ∧ Below w.heap.size w w' := by
  have HM := hide hm
  clear hm
  go_enter Try.func57, Try.ntmps57
  go_wp2_with ((go_at_call 56); refine (rmay_b HM.out _).mono ?_; rintro e w2 ⟨rfl, hb2⟩; have HB2 := hide hb2; clear hb2)
  go_ret
  exact ⟨rfl, below_then ((Below.refl _ _).alloc (Nat.le_refl _) _) HB2.out⟩
theorem rdefer_bad (g : Nat) (k : Int) (nm : ByteArray) (ar pl : Int) (w : World) (hm : may ⟨k, nm, ar, pl⟩ = false ∨ (k != 2) = true) :
    Calls Try.prog 50 #[.pointer (some ⟨g, 0, none⟩), .agg #[.int .u8 k, .string nm, .int .i64 ar, .int .i64 pl]] w fun e w' => e = .returned (.int .i64 2) ∧ Below w.heap.size w w' := by
  cases hm2 : may ⟨k, nm, ar, pl⟩ with
  | false =>
    have HM := hide hm2
    clear hm hm2
    go_enter Try.func50, Try.ntmps50
    go_wp2_with ((go_at_call 56); refine (rmay_b HM.out _).mono ?_; rintro e w2 ⟨rfl, hb2⟩; have HB2 := hide hb2; clear hb2)
    go_ret
    exact ⟨rfl, below_then ((Below.refl _ _).alloc (Nat.le_refl _) _) HB2.out⟩
  | true =>
    have hk : (k != 2) = true := by rcases hm with h | h; (rw [h] at hm2; cases hm2); exact h
    have HM := hide hm2
    clear hm hm2
    go_enter Try.func50, Try.ntmps50
    go_wp2_with ((go_at_call 56); refine (rmay_b HM.out _).mono ?_; rintro e w2 ⟨rfl, hb2⟩; have hbx := box_below hb2; have k0 := blk_cell hbx 0; simp at k0; have HB2 := hide hb2; clear hb2 hbx)
    go_ret
    exact ⟨rfl, below_then ((Below.refl _ _).alloc (Nat.le_refl _) _) HB2.out⟩
theorem rput_any {g : Nat} {m : M} {ok : Nat → Prop} (k : Int) (nm : ByteArray) (ar pl : Int) (w : World) (h : At w 92 94 ok g m) :
    Calls Try.prog 57 #[.pointer (some ⟨g, 0, none⟩), .agg #[.int .u8 k, .string nm, .int .i64 ar, .int .i64 pl]] w
      fun e w' => e = .returned (.int .i64 (m.put ⟨k, nm, ar, pl⟩).2) ∧ Turned 92 94 ok g (m.put ⟨k, nm, ar, pl⟩).1 w w' := by
  cases hm : may ⟨k, nm, ar, pl⟩ with
  | false => exact (rput_bad g k nm ar pl w hm).mono fun e w' ⟨h1, h2⟩ => by simp only [M.put]; rw [if_pos hm]; exact ⟨h1, Turned.of_below h h2⟩
  | true =>
    by_cases hr : m.room ≤ m.len
    · exact (rput_full k nm ar pl w h hr hm).mono fun e w' ⟨h1, h2⟩ => by simp only [M.put]; rw [if_neg (by rw [hm]; simp), if_pos hr]; exact ⟨h1, Turned.of_below h h2⟩
    · by_cases hk : k = 1
      · have hOk := Ok_addD h.ok ⟨k, nm, ar, pl⟩ hr
        obtain ⟨room, D, R, F⟩ := m
        exact (rput1_ok k nm ar pl w h (by simp at hr; omega) hm (by simpa using hk) hOk).mono fun e w' ⟨h1, h2⟩ => by simp only [M.put]; rw [if_neg (by rw [hm]; simp), if_neg hr, if_pos hk]; exact ⟨h1, h2⟩
      · have hOk := Ok_addR h.ok ⟨k, nm, ar, pl⟩ hr
        obtain ⟨room, D, R, F⟩ := m
        exact (rput0_ok k nm ar pl w h (by simp at hr; omega) hm (by simpa using hk) hOk).mono fun e w' ⟨h1, h2⟩ => by simp only [M.put]; rw [if_neg (by rw [hm]; simp), if_neg hr, if_neg hk]; exact ⟨h1, h2⟩
theorem rdefer_any {g : Nat} {m : M} {ok : Nat → Prop} (k : Int) (nm : ByteArray) (ar pl : Int) (w : World) (h : At w 92 94 ok g m) :
    Calls Try.prog 50 #[.pointer (some ⟨g, 0, none⟩), .agg #[.int .u8 k, .string nm, .int .i64 ar, .int .i64 pl]] w
      fun e w' => e = .returned (.int .i64 (m.defer ⟨k, nm, ar, pl⟩).2) ∧ Turned 92 94 ok g (m.defer ⟨k, nm, ar, pl⟩).1 w w' := by
  by_cases hb : may ⟨k, nm, ar, pl⟩ = false ∨ k ≠ 2
  · exact (rdefer_bad g k nm ar pl w (hb.imp id (fun h => by simpa using h))).mono fun e w' ⟨h1, h2⟩ => by simp only [M.defer]; rw [if_pos hb]; exact ⟨h1, Turned.of_below h h2⟩
  · have hm : may ⟨k, nm, ar, pl⟩ = true := by cases h : may ⟨k, nm, ar, pl⟩ <;> simp_all
    have hk : k = 2 := by rcases Classical.em (k = 2) with h | h; (exact h); exact absurd (.inr h) hb
    by_cases hr : m.room ≤ m.len
    · exact (rdefer_full k nm ar pl w h hr hm (by simpa using hk)).mono fun e w' ⟨h1, h2⟩ => by simp only [M.defer]; rw [if_neg hb, if_pos hr]; exact ⟨h1, Turned.of_below h h2⟩
    · have hOk := Ok_addF h.ok ⟨k, nm, ar, pl⟩ hr hk
      obtain ⟨room, D, R, F⟩ := m
      exact (rdefer_ok k nm ar pl w h (by simp at hr; omega) hm (by simpa using hk) hOk).mono fun e w' ⟨h1, h2⟩ => by simp only [M.defer]; rw [if_neg hb, if_neg hr]; exact ⟨h1, h2⟩

end Go.Proofs.Ytbobjecjopmnfaa
