/- The walk of PoolNone. -/
import Derived.Test.YtbobjecjopmnfaaG2
namespace Go.Proofs.Ytbobjecjopmnfaa
open Go.RowKit
set_option maxHeartbeats 1000000 in
theorem plen_nil (w : World) : Calls Try.prog 24 #[.pointer none] w fun e w' => e = .returned (.int .i64 0) ∧ w' = w := by
  go_enter Try.func24, Try.ntmps24
  go_wp2
  go_ret
  exact ⟨rfl, rfl⟩
set_option maxHeartbeats 1000000 in
theorem proom_nil (w : World) : Calls Try.prog 25 #[.pointer none] w fun e w' => e = .returned (.int .i64 0) ∧ w' = w := by
  go_enter Try.func25, Try.ntmps25
  go_wp2
  go_ret
  exact ⟨rfl, rfl⟩
abbrev zobj : Obj := .cells #[.int .u8 0, .string ⟨#[]⟩, .int .i64 0, .int .i64 0] 31 (0, 0)
def NBox (w0 w : World) (X Y : Nat) (kd k : Int) (nm : ByteArray) (ar pl : Int) : Prop := Below w0.heap.size w0 w ∧ w.heap[X]? = some (aobj kd k nm ar pl) ∧ w.heap[Y]? = some zobj
theorem NBox.below {w0 w w' : World} {X Y : Nat} {kd k : Int} {nm : ByteArray} {ar pl : Int} (h : NBox w0 w X Y kd k nm ar pl) (hb : Below w.heap.size w w') : NBox w0 w' X Y kd k nm ar pl :=
  ⟨below_then h.1 hb, (hb.block _ (blk_lt h.2.1)).trans h.2.1, (hb.block _ (blk_lt h.2.2)).trans h.2.2⟩
theorem NBox.cells {w0 w : World} {X Y : Nat} {kd k : Int} {nm : ByteArray} {ar pl : Int} (h : NBox w0 w X Y kd k nm ar pl) :
    (X < w.heap.size ∧ Y < w.heap.size) ∧ ABox X kd k nm ar pl w ∧ w.cell? ⟨Y, 0, none⟩ = some (.int .u8 0) ∧ w.cell? ⟨Y, 1, none⟩ = some (.string ⟨#[]⟩) ∧ w.cell? ⟨Y, 2, none⟩ = some (.int .i64 0) ∧ w.cell? ⟨Y, 3, none⟩ = some (.int .i64 0) :=
  ⟨⟨blk_lt h.2.1, blk_lt h.2.2⟩, abox h.2.1, ebox h.2.2⟩
section
attribute [local go_sem high] eqA31
set_option maxHeartbeats 4000000 in
theorem none_any (kd k : Int) (nm : ByteArray) (ar pl : Int) (w : World) :
    Calls Try.prog 5 #[.agg #[.int .i64 kd, .int .u8 k, .string nm, .int .i64 ar, .int .i64 pl]] w fun e w' => e = .returned (.bool true) ∧ Below w.heap.size w w' := by
  go_enter Try.func5, Try.ntmps5
  go_wp2_with fail
  go_at_call 23
  refine (next_nil _).mono ?_
  rintro e w1 ⟨rfl, hb1⟩
  have N0 : Hid (NBox w (w1.alloc zobj) w.heap.size w1.heap.size kd k nm ar pl) := ⟨below_then (below_then ((Below.refl _ _).alloc (Nat.le_refl _) (aobj kd k nm ar pl)) hb1) ((Below.refl _ _).alloc (Nat.le_refl _) zobj),
    blk_alloc ((hb1.block _ (by simp)).trans (blk_new rfl)) zobj, blk_new rfl⟩
  clear hb1
  go_wp2_with fail
  go_at_call 22
  refine (rows_nil _).mono ?_
  rintro e _ ⟨rfl, rfl⟩
  obtain ⟨⟨lx, ly⟩, ⟨c0, c1, c2, c3, c4⟩, e0, e1, e2, e3⟩ := N0.out.cells
  go_wp2_with fail
  go_at_call 19
  refine (put_nil k nm ar pl _).mono ?_
  rintro e v1 ⟨rfl, hb⟩
  have N1 := hide (N0.out.below hb)
  clear hb lx ly c0 c1 c2 c3 c4 e0 e1 e2 e3 N0
  obtain ⟨⟨lx, ly⟩, ⟨c0, c1, c2, c3, c4⟩, e0, e1, e2, e3⟩ := N1.out.cells
  go_wp2_with fail
  go_at_call 20
  refine (defer_nil k nm ar pl _).mono ?_
  rintro e v2 ⟨rfl, hb⟩
  have N2 := hide (N1.out.below hb)
  clear hb lx ly c0 c1 c2 c3 c4 e0 e1 e2 e3 N1
  obtain ⟨⟨lx, ly⟩, ⟨c0, c1, c2, c3, c4⟩, e0, e1, e2, e3⟩ := N2.out.cells
  go_wp2_with fail
  go_at_call 21
  refine (recall_nil _).mono ?_
  rintro e _ ⟨rfl, rfl⟩
  go_wp2_with fail
  go_at_call 26
  refine (gone_nil k pl _).mono ?_
  rintro e v3 ⟨rfl, hb⟩
  have N3 := hide (N2.out.below hb)
  clear hb lx ly c0 c1 c2 c3 c4 e0 e1 e2 e3 N2
  obtain ⟨⟨lx, ly⟩, ⟨c0, c1, c2, c3, c4⟩, e0, e1, e2, e3⟩ := N3.out.cells
  go_wp2_with fail
  go_at_call 24
  refine (plen_nil _).mono ?_
  rintro e _ ⟨rfl, rfl⟩
  go_wp2_with fail
  go_at_call 25
  refine (proom_nil _).mono ?_
  rintro e _ ⟨rfl, rfl⟩
  go_wp2_with fail
  go_at_call 13
  refine (works_any _).mono ?_
  rintro e v4 ⟨rfl, hb⟩
  have N4 := hide (N3.out.below hb)
  clear hb lx ly c0 c1 c2 c3 c4 e0 e1 e2 e3 N3
  obtain ⟨⟨lx, ly⟩, ⟨c0, c1, c2, c3, c4⟩, e0, e1, e2, e3⟩ := N4.out.cells
  go_wp2
  go_ret
  exact ⟨rfl, N4.out.1⟩
end
end Go.Proofs.Ytbobjecjopmnfaa
