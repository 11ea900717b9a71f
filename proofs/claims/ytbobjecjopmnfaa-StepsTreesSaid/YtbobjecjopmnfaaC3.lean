/- The walks of add (the pool's): refused, full, and one event more in each row. -/
import Derived.Test.YtbobjecjopmnfaaC2
namespace Go.Proofs.Ytbobjecjopmnfaa
open Go.RowKit

set_option maxHeartbeats 400000 in
theorem add0_ok {g : Nat} {ok : Nat → Prop} {room : Int} {D R F : List Ev} (k : Int) (nm : ByteArray) (ar pl : Int) (w : World) (h : At w 90 31 ok g ⟨room, D, R, F⟩) (hroom : ((M.mk room D R F).len : Int) < room)
    (hOk : M.Ok ⟨room, D ++ [⟨k, nm, ar, pl⟩], R, F⟩) :
    Calls Try.prog 59 #[.pointer (some ⟨g, 0, none⟩), .int .i64 0, .agg #[.int .u8 k, .string nm, .int .i64 ar, .int .i64 pl], .bool true] w fun e w' => e = .returned (.int .i64 0) ∧ Turned 90 31 ok g ⟨room, D ++ [⟨k, nm, ar, pl⟩], R, F⟩ w w' := by
  have hs := h.small
  obtain ⟨v0, v1, v2, hb, h0, h1, h2, a01, a02, a12, hok, hltok, _⟩ := h
  simp only at hb h0 h1 h2 hs
  obtain ⟨A, ca, rfl, _⟩ := h0.slice_
  obtain ⟨B, cb, rfl, _⟩ := h1.slice_
  obtain ⟨C, cc, rfl, _⟩ := h2.slice_
  simp only [M.len] at hroom
  have hlt := blk_lt hb
  have c0 := blk_cell hb 0
  have c1 := blk_cell hb 1
  have c2 := blk_cell hb 2
  have c3 := blk_cell hb 3
  simp at c0 c1 c2 c3
  have hr' : decide (room ≤ (D.length : Int) + R.length + F.length) = false := by simp; omega
  have HB := hide hb
  have H0 := hide h0
  have H1 := hide h1
  have H2 := hide h2
  have HA : Hid (Apart (.slice A D.length ca) (.slice B R.length cb) ∧ Apart (.slice A D.length ca) (.slice C F.length cc) ∧ Apart (.slice B R.length cb) (.slice C F.length cc)) := ⟨a01, a02, a12⟩
  have HO := hide hok
  have HL := hide hltok
  clear hb h0 h1 h2 a01 a02 a12 hok hltok
  go_enter Try.func59, Try.ntmps59
  go_wp2
  go_quiet ((go_at_call 24; exact Calls.quiet_of_same (plen_raw g A B C D.length R.length F.length ca cb cc _ (by omega) (cl_ad c1 _ _) (cl_ad c2 _ _) (cl_ad c3 _ _))))
  go_wp2
  go_region_law (refine step_append_row _ rfl (.tmp 30) (.tmp 32) 41 31 rfl _ 4 40 Try.underlying41 info31 rfl (by decide) (by decide) (.slice A D.length ca) D.length (cells D) rfl (by repeat (first | exact H0.out | apply Row.alloc | apply Row.drewN | apply Row.drew)) (fun _ => True) _ 1 (cells [⟨k, nm, ar, pl⟩]) rfl (rd_one (t := 31) (blk_new (by simp))) (cells_one _) (by omega) ?_; intro A' c' w1 hrow' honly hfp; rw [← cells_append] at hrow'; have hbW := (Below.block ((((((Below.refl w.heap.size w).alloc (Nat.le_refl _) (.cells #[.int .u8 k, .string nm, .int .i64 ar, .int .i64 pl] 31)).drew).alloc (by simp) (.cells #[.int .u8 k, .string nm, .int .i64 ar, .int .i64 pl] 31)))) g hlt).trans HB.out; have hb1 := (honly.block g (by simp; omega) ((Row.ne_ (H0.out) HB.out (by decide)))).trans hbW; have d1 := blk_cell hb1 1; have f1 := blk_frozen hb1 1; simp at d1; have hlt1 := blk_lt hb1; clear hb1 hbW; have HR := hide hrow'; have HY := hide honly; have HF := hide hfp; clear hrow' honly hfp)
  all_goals
    go_wp2
    go_ret
    refine ⟨rfl, At.row0 HB.out H0.out H1.out H2.out HA.out.1 HA.out.2.1 HA.out.2.2 HO.out HL.out (by decide) ?_ HY.out (by rw [List.length_append]; exact HR.out) HF.out hOk⟩
    repeat (first | exact Below.refl _ _ | refine Below.drew ?_ | refine below_drewN ?_ _ | refine Below.alloc ?_ (by simp; try omega) _)

set_option maxHeartbeats 400000 in
theorem add1_ok {g : Nat} {ok : Nat → Prop} {room : Int} {D R F : List Ev} (k : Int) (nm : ByteArray) (ar pl : Int) (w : World) (h : At w 90 31 ok g ⟨room, D, R, F⟩) (hroom : ((M.mk room D R F).len : Int) < room)
    (hOk : M.Ok ⟨room, D, R ++ [⟨k, nm, ar, pl⟩], F⟩) :
    Calls Try.prog 59 #[.pointer (some ⟨g, 0, none⟩), .int .i64 1, .agg #[.int .u8 k, .string nm, .int .i64 ar, .int .i64 pl], .bool true] w fun e w' => e = .returned (.int .i64 0) ∧ Turned 90 31 ok g ⟨room, D, R ++ [⟨k, nm, ar, pl⟩], F⟩ w w' := by
  have hs := h.small
  obtain ⟨v0, v1, v2, hb, h0, h1, h2, a01, a02, a12, hok, hltok, _⟩ := h
  simp only at hb h0 h1 h2 hs
  obtain ⟨A, ca, rfl, _⟩ := h0.slice_
  obtain ⟨B, cb, rfl, _⟩ := h1.slice_
  obtain ⟨C, cc, rfl, _⟩ := h2.slice_
  simp only [M.len] at hroom
  have hlt := blk_lt hb
  have c0 := blk_cell hb 0
  have c1 := blk_cell hb 1
  have c2 := blk_cell hb 2
  have c3 := blk_cell hb 3
  simp at c0 c1 c2 c3
  have hr' : decide (room ≤ (D.length : Int) + R.length + F.length) = false := by simp; omega
  have HB := hide hb
  have H0 := hide h0
  have H1 := hide h1
  have H2 := hide h2
  have HA : Hid (Apart (.slice A D.length ca) (.slice B R.length cb) ∧ Apart (.slice A D.length ca) (.slice C F.length cc) ∧ Apart (.slice B R.length cb) (.slice C F.length cc)) := ⟨a01, a02, a12⟩
  have HO := hide hok
  have HL := hide hltok
  clear hb h0 h1 h2 a01 a02 a12 hok hltok
  go_enter Try.func59, Try.ntmps59
  go_wp2
  go_quiet ((go_at_call 24; exact Calls.quiet_of_same (plen_raw g A B C D.length R.length F.length ca cb cc _ (by omega) (cl_ad c1 _ _) (cl_ad c2 _ _) (cl_ad c3 _ _))))
  go_wp2
  go_region_law (refine step_append_row _ rfl (.tmp 30) (.tmp 32) 41 31 rfl _ 4 40 Try.underlying41 info31 rfl (by decide) (by decide) (.slice B R.length cb) R.length (cells R) rfl (by repeat (first | exact H1.out | apply Row.alloc | apply Row.drewN | apply Row.drew)) (fun _ => True) _ 1 (cells [⟨k, nm, ar, pl⟩]) rfl (rd_one (t := 31) (blk_new (by simp))) (cells_one _) (by omega) ?_; intro A' c' w1 hrow' honly hfp; rw [← cells_append] at hrow'; have hbW := (Below.block ((((((Below.refl w.heap.size w).alloc (Nat.le_refl _) (.cells #[.int .u8 k, .string nm, .int .i64 ar, .int .i64 pl] 31)).drew).alloc (by simp) (.cells #[.int .u8 k, .string nm, .int .i64 ar, .int .i64 pl] 31)))) g hlt).trans HB.out; have hb1 := (honly.block g (by simp; omega) ((Row.ne_ (H1.out) HB.out (by decide)))).trans hbW; have d1 := blk_cell hb1 2; have f1 := blk_frozen hb1 2; simp at d1; have hlt1 := blk_lt hb1; clear hb1 hbW; have HR := hide hrow'; have HY := hide honly; have HF := hide hfp; clear hrow' honly hfp)
  all_goals
    go_wp2
    go_ret
    refine ⟨rfl, At.row1 HB.out H0.out H1.out H2.out HA.out.1 HA.out.2.1 HA.out.2.2 HO.out HL.out (by decide) ?_ HY.out (by rw [List.length_append]; exact HR.out) HF.out hOk⟩
    repeat (first | exact Below.refl _ _ | refine Below.drew ?_ | refine below_drewN ?_ _ | refine Below.alloc ?_ (by simp; try omega) _)

set_option maxHeartbeats 400000 in
theorem add2_ok {g : Nat} {ok : Nat → Prop} {room : Int} {D R F : List Ev} (k : Int) (nm : ByteArray) (ar pl : Int) (w : World) (h : At w 90 31 ok g ⟨room, D, R, F⟩) (hroom : ((M.mk room D R F).len : Int) < room)
    (hOk : M.Ok ⟨room, D, R, F ++ [⟨k, nm, ar, pl⟩]⟩) :
    Calls Try.prog 59 #[.pointer (some ⟨g, 0, none⟩), .int .i64 2, .agg #[.int .u8 k, .string nm, .int .i64 ar, .int .i64 pl], .bool true] w fun e w' => e = .returned (.int .i64 0) ∧ Turned 90 31 ok g ⟨room, D, R, F ++ [⟨k, nm, ar, pl⟩]⟩ w w' := by
  have hs := h.small
  obtain ⟨v0, v1, v2, hb, h0, h1, h2, a01, a02, a12, hok, hltok, _⟩ := h
  simp only at hb h0 h1 h2 hs
  obtain ⟨A, ca, rfl, _⟩ := h0.slice_
  obtain ⟨B, cb, rfl, _⟩ := h1.slice_
  obtain ⟨C, cc, rfl, _⟩ := h2.slice_
  simp only [M.len] at hroom
  have hlt := blk_lt hb
  have c0 := blk_cell hb 0
  have c1 := blk_cell hb 1
  have c2 := blk_cell hb 2
  have c3 := blk_cell hb 3
  simp at c0 c1 c2 c3
  have hr' : decide (room ≤ (D.length : Int) + R.length + F.length) = false := by simp; omega
  have HB := hide hb
  have H0 := hide h0
  have H1 := hide h1
  have H2 := hide h2
  have HA : Hid (Apart (.slice A D.length ca) (.slice B R.length cb) ∧ Apart (.slice A D.length ca) (.slice C F.length cc) ∧ Apart (.slice B R.length cb) (.slice C F.length cc)) := ⟨a01, a02, a12⟩
  have HO := hide hok
  have HL := hide hltok
  clear hb h0 h1 h2 a01 a02 a12 hok hltok
  go_enter Try.func59, Try.ntmps59
  go_wp2
  go_quiet ((go_at_call 24; exact Calls.quiet_of_same (plen_raw g A B C D.length R.length F.length ca cb cc _ (by omega) (cl_ad c1 _ _) (cl_ad c2 _ _) (cl_ad c3 _ _))))
  go_wp2
  go_region_law (refine step_append_row _ rfl (.tmp 30) (.tmp 32) 41 31 rfl _ 4 40 Try.underlying41 info31 rfl (by decide) (by decide) (.slice C F.length cc) F.length (cells F) rfl (by repeat (first | exact H2.out | apply Row.alloc | apply Row.drewN | apply Row.drew)) (fun _ => True) _ 1 (cells [⟨k, nm, ar, pl⟩]) rfl (rd_one (t := 31) (blk_new (by simp))) (cells_one _) (by omega) ?_; intro A' c' w1 hrow' honly hfp; rw [← cells_append] at hrow'; have hbW := (Below.block ((((((Below.refl w.heap.size w).alloc (Nat.le_refl _) (.cells #[.int .u8 k, .string nm, .int .i64 ar, .int .i64 pl] 31)).drew).alloc (by simp) (.cells #[.int .u8 k, .string nm, .int .i64 ar, .int .i64 pl] 31)))) g hlt).trans HB.out; have hb1 := (honly.block g (by simp; omega) ((Row.ne_ (H2.out) HB.out (by decide)))).trans hbW; have d1 := blk_cell hb1 3; have f1 := blk_frozen hb1 3; simp at d1; have hlt1 := blk_lt hb1; clear hb1 hbW; have HR := hide hrow'; have HY := hide honly; have HF := hide hfp; clear hrow' honly hfp)
  all_goals
    go_wp2
    go_ret
    refine ⟨rfl, At.row2 HB.out H0.out H1.out H2.out HA.out.1 HA.out.2.1 HA.out.2.2 HO.out HL.out (by decide) ?_ HY.out (by rw [List.length_append]; exact HR.out) HF.out hOk⟩
    repeat (first | exact Below.refl _ _ | refine Below.drew ?_ | refine below_drewN ?_ _ | refine Below.alloc ?_ (by simp; try omega) _)

theorem add_full {g : Nat} {m : M} {ok : Nat → Prop} (i k : Int) (nm : ByteArray) (ar pl : Int) (w : World) (h : At w 90 31 ok g m) (hroom : m.room ≤ m.len) :
    Calls Try.prog 59 #[.pointer (some ⟨g, 0, none⟩), .int .i64 i, .agg #[.int .u8 k, .string nm, .int .i64 ar, .int .i64 pl], .bool true] w fun e w' => e = .returned (.int .i64 240) ∧ Below w.heap.size w w' := by
  have hs := h.small
  obtain ⟨A, B, C, ca, cb, cc, hb⟩ := h.slices
  obtain ⟨room, D, R, F⟩ := m
  simp only at hb hs
  simp only [M.len] at hroom
  have hlt := blk_lt hb
  have c0 := blk_cell hb 0
  have c1 := blk_cell hb 1
  have c2 := blk_cell hb 2
  have c3 := blk_cell hb 3
  simp at c0 c1 c2 c3
  have hr' : decide (room ≤ (D.length : Int) + R.length + F.length) = true := by simp; omega
  clear hb h
  go_enter Try.func59, Try.ntmps59
  go_wp2
  go_quiet ((go_at_call 24; exact Calls.quiet_of_same (plen_raw g A B C D.length R.length F.length ca cb cc _ (by omega) (cl_ad c1 _ _) (cl_ad c2 _ _) (cl_ad c3 _ _))))
  go_wp2
  go_ret
  refine ⟨rfl, ?_⟩
  repeat (first | exact Below.refl _ _ | refine Below.drew ?_ | refine below_drewN ?_ _ | refine Below.alloc ?_ (by simp; try omega) _)
theorem add_bad (g : Nat) (i k : Int) (nm : ByteArray) (ar pl : Int) (w : World) :
    Calls Try.prog 59 #[.pointer (some ⟨g, 0, none⟩), .int .i64 i, .agg #[.int .u8 k, .string nm, .int .i64 ar, .int .i64 pl], .bool false] w fun e w' => e = .returned (.int .i64 2) ∧ Below w.heap.size w w' := by
  go_enter Try.func59, Try.ntmps59
  go_wp2
  go_ret
  exact ⟨rfl, (Below.refl _ _).alloc (Nat.le_refl _) _⟩
theorem add_nil (i k : Int) (nm : ByteArray) (ar pl : Int) (b : Bool) (w : World) :
    Calls Try.prog 59 #[.pointer none, .int .i64 i, .agg #[.int .u8 k, .string nm, .int .i64 ar, .int .i64 pl], .bool b] w fun e w' => e = .returned (.int .i64 1) ∧ Below w.heap.size w w' := by
  go_enter Try.func59, Try.ntmps59
  go_wp2
  go_ret
  exact ⟨rfl, (Below.refl _ _).alloc (Nat.le_refl _) _⟩

end Go.Proofs.Ytbobjecjopmnfaa
