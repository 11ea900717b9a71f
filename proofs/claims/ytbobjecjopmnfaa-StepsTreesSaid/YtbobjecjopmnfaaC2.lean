/- append onto a row of events, as a step of a walk; add, Put, Defer. -/
import Derived.Test.YtbobjecjopmnfaaC1
import Derived.Deep.RegionHeld3
import Derived.Deep.RegionLaw
import Derived.Deep.RegionWith
import Derived.Deep.DeepCutAuto
import Derived.Deep.CutBlock
namespace Go.Proofs.Ytbobjecjopmnfaa
open Go.RowKit
theorem info31 : (Try.prog.info? 31).map (fun i => (i.zero, i.size, i.bytes)) = some (some (.agg #[(.int .u8 0), (.string ⟨#[]⟩), (.int .i64 0), (.int .i64 0)]), 4, 40) := by kernel_rfl
theorem info94 : (Try.prog.info? 94).map (fun i => (i.zero, i.size, i.bytes)) = some (some (.agg #[(.int .u8 0), (.string ⟨#[]⟩), (.int .i64 0), (.int .i64 0)]), 4, 40) := by kernel_rfl

section
variable {P : Program}
theorem run_append_info (w : World) (t ty e : TypeId) (z : Value) (sz bytes : Nat) (ht : P.underlying t = some (.slice e)) (hinfo : (P.info? e).map (fun i => (i.zero, i.size, i.bytes)) = some (some z, sz, bytes))
    (hzs : z.cells.size = sz) (hsz : 0 < sz) (hb0 : 0 < bytes)
    (v : Value) (n : Nat) (xs : List Value) (hown : Row w e sz v n xs) (ok : Nat → Prop)
    (u : Value) (m : Nat) (news : List Value) (hr : Rd w ok sz u m news) (h1 : ∀ x ∈ news, x.oneCell' = true)
    (hbytes : (n + m) * bytes ≤ 140737488355328) :
    ∃ v' w', (Builtin.append_ #[t, t] ty #[v, u]).run P w = .ok v' w' ∧ Row w' e sz v' (n + m) (xs ++ news) ∧ Only (Fp v) w w' ∧ (∀ b, Fp v' b → Fp v b ∨ w.heap.size ≤ b) := by
  obtain ⟨i0, hi, hzz⟩ := Option.map_eq_some_iff.1 hinfo
  simp only [Prod.mk.injEq] at hzz
  obtain ⟨hz0, hz1, hz2⟩ := hzz
  have hlen : n + m ≤ 140737488355328 := Nat.le_trans (Nat.le_mul_of_pos_right _ hb0) hbytes
  exact run_append_row w t ty e i0 z sz bytes ht hi hz0 hz1 hz2 hzs hsz v n xs hown ok u m news hr h1 (by simp only [maxLen]; omega) hbytes

theorem wp_append_row (w : World) {o : Oper} {a : Act} {K : Act → World → Prop} {Q : Exit → Act → World → Prop} (s x : Operand) (t e : TypeId)
    (ho : o.op = .call { callee := .builtin .append, args := #[s, x], argTypes := #[t, t] }) (z : Value) (sz bytes : Nat)
    (ht : P.underlying t = some (.slice e)) (hinfo : (P.info? e).map (fun i => (i.zero, i.size, i.bytes)) = some (some z, sz, bytes))
    (hzs : z.cells.size = sz) (hsz : 0 < sz) (hb0 : 0 < bytes)
    (v : Value) (n : Nat) (xs : List Value) (hs : a.eval s = v) (hown : Row w e sz v n xs) (ok : Nat → Prop)
    (u : Value) (m : Nat) (news : List Value) (hx : a.eval x = u) (hr : Rd w ok sz u m news) (h1 : ∀ x ∈ news, x.oneCell' = true)
    (hbytes : (n + m) * bytes ≤ 140737488355328)
    (h : ∀ A' c' w', Row w' e sz (.slice A' (n + m) c') (n + m) (xs ++ news) → Only (Fp v) w w' → (∀ b, Fp (.slice A' (n + m) c') b → Fp v b ∨ w.heap.size ≤ b) → K (a.put o.dst (.slice A' (n + m) c')) w') : o.wp P a w K Q := by
  obtain ⟨v', w', hrun, h2, h3, h4⟩ := run_append_info (P := P) w t o.type e z sz bytes ht hinfo hzs hsz hb0 v n xs hown ok u m news hr h1 hbytes
  unfold Oper.wp execOp
  simp only [ho, resolve, invoke, builtin, Sem.run_bind, Sem.run_pure, Result.andThen_ok, List.map_toArray, List.map_cons, List.map_nil, hs, hx, hrun]
  obtain ⟨A', c', rfl, _⟩ := h2.slice_
  exact h A' c' w' h2 h3 h4
theorem wpList_append_row (w : World) {ops : Array Oper} {rest : List Oper} {o : Oper} {a : Act} {Q : Exit → Act → World → Prop} (hgd : o.guard = none) (s x : Operand) (t e : TypeId)
    (ho : o.op = .call { callee := .builtin .append, args := #[s, x], argTypes := #[t, t] }) (z : Value) (sz bytes : Nat)
    (ht : P.underlying t = some (.slice e)) (hinfo : (P.info? e).map (fun i => (i.zero, i.size, i.bytes)) = some (some z, sz, bytes))
    (hzs : z.cells.size = sz) (hsz : 0 < sz) (hb0 : 0 < bytes)
    (v : Value) (n : Nat) (xs : List Value) (hs : a.eval s = v) (hown : Row w e sz v n xs) (ok : Nat → Prop)
    (u : Value) (m : Nat) (news : List Value) (hx : a.eval x = u) (hr : Rd w ok sz u m news) (h1 : ∀ x ∈ news, x.oneCell' = true)
    (hbytes : (n + m) * bytes ≤ 140737488355328)
    (h : ∀ A' c' w', Row w' e sz (.slice A' (n + m) c') (n + m) (xs ++ news) → Only (Fp v) w w' → (∀ b, Fp (.slice A' (n + m) c') b → Fp v b ∨ w.heap.size ≤ b) → wpList P ops Q rest (a.put o.dst (.slice A' (n + m) c')) w') : wpList P ops Q (o :: rest) a w :=
  wpList_plain hgd fun _ hK => wp_append_row w s x t e ho z sz bytes ht hinfo hzs hsz hb0 v n xs hs hown ok u m news hx hr h1 hbytes fun A' c' w' h2 h3 h4 => hK _ _ (h A' c' w' h2 h3 h4)
theorem step_append_row (w : World) {ops : Array Oper} {o : Oper} {a : Act} {K : Act → World → Prop} {Q : Exit → Act → World → Prop} {E : Prop} (hgd : o.guard = none) (s x : Operand) (t e : TypeId)
    (ho : o.op = .call { callee := .builtin .append, args := #[s, x], argTypes := #[t, t] }) (z : Value) (sz bytes : Nat)
    (ht : P.underlying t = some (.slice e)) (hinfo : (P.info? e).map (fun i => (i.zero, i.size, i.bytes)) = some (some z, sz, bytes))
    (hzs : z.cells.size = sz) (hsz : 0 < sz) (hb0 : 0 < bytes)
    (v : Value) (n : Nat) (xs : List Value) (hs : a.eval s = v) (hown : Row w e sz v n xs) (ok : Nat → Prop)
    (u : Value) (m : Nat) (news : List Value) (hx : a.eval x = u) (hr : Rd w ok sz u m news) (h1 : ∀ x ∈ news, x.oneCell' = true)
    (hbytes : (n + m) * bytes ≤ 140737488355328)
    (h : ∀ A' c' w', Row w' e sz (.slice A' (n + m) c') (n + m) (xs ++ news) → Only (Fp v) w w' → (∀ b, Fp (.slice A' (n + m) c') b → Fp v b ∨ w.heap.size ≤ b) → K (a.put o.dst (.slice A' (n + m) c')) w') :
    if Region.wanted o (yielded ops a.tmps) = true then Oper.wp P o a w K Q else E := by
  have hw : Region.wanted o (yielded ops a.tmps) = true := by simp [Region.wanted, hgd]
  rw [if_pos hw]
  exact wp_append_row w s x t e ho z sz bytes ht hinfo hzs hsz hb0 v n xs hs hown ok u m news hx hr h1 hbytes h
end

theorem At.row0 {w W w1 : World} {t e g : Nat} {ok : Nat → Prop} {room : Int} {D R F D' : List Ev} {v0 v1 v2 v' : Value} (hb : w.heap[g]? = some (.cells #[.int .i64 room, v0, v1, v2] t (0, 0)))
    (h0 : Row w e 4 v0 D.length (cells D)) (h1 : Row w e 4 v1 R.length (cells R)) (h2 : Row w e 4 v2 F.length (cells F)) (a01 : Apart v0 v1) (a02 : Apart v0 v2) (a12 : Apart v1 v2)
    (hok : ∀ b, (b = g ∨ Fp v0 b ∨ Fp v1 b ∨ Fp v2 b) → ok b) (hlt : ∀ b, ok b → b < w.heap.size) (hte : e ≠ t) (hB : Below w.heap.size w W) (ho : Only (Fp v0) W w1)
    (h' : Row w1 e 4 v' D'.length (cells D')) (hfp : ∀ b, Fp v' b → Fp v0 b ∨ W.heap.size ≤ b) (hOk : M.Ok ⟨room, D', R, F⟩) : Turned t e ok g ⟨room, D', R, F⟩ w (w1.setCell ⟨g, 1, none⟩ v') := by
  have hbW := (hB.block g (blk_lt hb)).trans hb
  have hb1 : w1.heap[g]? = some (.cells #[.int .i64 room, v0, v1, v2] t (0, 0)) := (ho.block g (blk_lt hbW) (h0.ne_ hb hte)).trans hbW
  have hsz : w.heap.size ≤ w1.heap.size := Nat.le_trans hB.size ho.size
  refine ⟨fun b => ok b ∨ Fp v' b, ⟨v', v1, v2, blk_set hb1 1 v', h'.setCell (fun hf => (hfp g hf).elim (h0.ne_ hb hte) (fun h => absurd (Nat.le_trans hB.size h) (by have := blk_lt hb; omega))) _, ((h1.below hB).only ho (fun b h h' => a01 b h' h)).setCell (fun hf => h1.ne_ hb hte hf) _, ((h2.below hB).only ho (fun b h h' => a02 b h' h)).setCell (fun hf => h2.ne_ hb hte hf) _, fun b h h' => (hfp b h).elim (fun h => a01 b h h') (fun h => absurd (Nat.le_trans hB.size h) (by have := h1.lt b h'; omega)), fun b h h' => (hfp b h).elim (fun h => a02 b h h') (fun h => absurd (Nat.le_trans hB.size h) (by have := h2.lt b h'; omega)), a12, ?_, ?_, hOk⟩, ?_, ?_⟩
  · rintro b (rfl | h | h | h)
    · exact .inl (hok b (.inl rfl))
    · exact .inr h
    · exact .inl (hok b (.inr (.inr (.inl h))))
    · exact .inl (hok b (.inr (.inr (.inr h))))
  · rintro b (h | h)
    · have := hlt b h
      simp only [World.setCell, Array.size_modify]; omega
    · have := h'.lt b h
      simp only [World.setCell, Array.size_modify]; omega
  · refine Only.setCell ?_ (.inl (hok _ (.inl rfl))) _
    exact (Only.of_below hB ok).trans ho (fun b h => .inl (hok b (.inr (.inl h))))
  · rintro b (h | h)
    · exact .inl h
    · rcases hfp b h with h | h
      · exact .inl (hok b (.inr (.inl h)))
      · exact .inr (Nat.le_trans hB.size h)
theorem At.row1 {w W w1 : World} {t e g : Nat} {ok : Nat → Prop} {room : Int} {D R F R' : List Ev} {v0 v1 v2 v' : Value} (hb : w.heap[g]? = some (.cells #[.int .i64 room, v0, v1, v2] t (0, 0)))
    (h0 : Row w e 4 v0 D.length (cells D)) (h1 : Row w e 4 v1 R.length (cells R)) (h2 : Row w e 4 v2 F.length (cells F)) (a01 : Apart v0 v1) (a02 : Apart v0 v2) (a12 : Apart v1 v2)
    (hok : ∀ b, (b = g ∨ Fp v0 b ∨ Fp v1 b ∨ Fp v2 b) → ok b) (hlt : ∀ b, ok b → b < w.heap.size) (hte : e ≠ t) (hB : Below w.heap.size w W) (ho : Only (Fp v1) W w1)
    (h' : Row w1 e 4 v' R'.length (cells R')) (hfp : ∀ b, Fp v' b → Fp v1 b ∨ W.heap.size ≤ b) (hOk : M.Ok ⟨room, D, R', F⟩) : Turned t e ok g ⟨room, D, R', F⟩ w (w1.setCell ⟨g, 2, none⟩ v') := by
  have hbW := (hB.block g (blk_lt hb)).trans hb
  have hb1 : w1.heap[g]? = some (.cells #[.int .i64 room, v0, v1, v2] t (0, 0)) := (ho.block g (blk_lt hbW) (h1.ne_ hb hte)).trans hbW
  have hsz : w.heap.size ≤ w1.heap.size := Nat.le_trans hB.size ho.size
  refine ⟨fun b => ok b ∨ Fp v' b, ⟨v0, v', v2, blk_set hb1 2 v', ((h0.below hB).only ho (fun b h h' => a01 b h h')).setCell (fun hf => h0.ne_ hb hte hf) _, h'.setCell (fun hf => (hfp g hf).elim (h1.ne_ hb hte) (fun h => absurd (Nat.le_trans hB.size h) (by have := blk_lt hb; omega))) _, ((h2.below hB).only ho (fun b h h' => a12 b h' h)).setCell (fun hf => h2.ne_ hb hte hf) _, fun b h h' => (hfp b h').elim (fun h' => a01 b h h') (fun h' => absurd (Nat.le_trans hB.size h') (by have := h0.lt b h; omega)), a02, fun b h h' => (hfp b h).elim (fun h => a12 b h h') (fun h => absurd (Nat.le_trans hB.size h) (by have := h2.lt b h'; omega)), ?_, ?_, hOk⟩, ?_, ?_⟩
  · rintro b (rfl | h | h | h)
    · exact .inl (hok b (.inl rfl))
    · exact .inl (hok b (.inr (.inl h)))
    · exact .inr h
    · exact .inl (hok b (.inr (.inr (.inr h))))
  · rintro b (h | h)
    · have := hlt b h
      simp only [World.setCell, Array.size_modify]; omega
    · have := h'.lt b h
      simp only [World.setCell, Array.size_modify]; omega
  · refine Only.setCell ?_ (.inl (hok _ (.inl rfl))) _
    exact (Only.of_below hB ok).trans ho (fun b h => .inl (hok b (.inr (.inr (.inl h)))))
  · rintro b (h | h)
    · exact .inl h
    · rcases hfp b h with h | h
      · exact .inl (hok b (.inr (.inr (.inl h))))
      · exact .inr (Nat.le_trans hB.size h)
theorem At.row2 {w W w1 : World} {t e g : Nat} {ok : Nat → Prop} {room : Int} {D R F F' : List Ev} {v0 v1 v2 v' : Value} (hb : w.heap[g]? = some (.cells #[.int .i64 room, v0, v1, v2] t (0, 0)))
    (h0 : Row w e 4 v0 D.length (cells D)) (h1 : Row w e 4 v1 R.length (cells R)) (h2 : Row w e 4 v2 F.length (cells F)) (a01 : Apart v0 v1) (a02 : Apart v0 v2) (a12 : Apart v1 v2)
    (hok : ∀ b, (b = g ∨ Fp v0 b ∨ Fp v1 b ∨ Fp v2 b) → ok b) (hlt : ∀ b, ok b → b < w.heap.size) (hte : e ≠ t) (hB : Below w.heap.size w W) (ho : Only (Fp v2) W w1)
    (h' : Row w1 e 4 v' F'.length (cells F')) (hfp : ∀ b, Fp v' b → Fp v2 b ∨ W.heap.size ≤ b) (hOk : M.Ok ⟨room, D, R, F'⟩) : Turned t e ok g ⟨room, D, R, F'⟩ w (w1.setCell ⟨g, 3, none⟩ v') := by
  have hbW := (hB.block g (blk_lt hb)).trans hb
  have hb1 : w1.heap[g]? = some (.cells #[.int .i64 room, v0, v1, v2] t (0, 0)) := (ho.block g (blk_lt hbW) (h2.ne_ hb hte)).trans hbW
  have hsz : w.heap.size ≤ w1.heap.size := Nat.le_trans hB.size ho.size
  refine ⟨fun b => ok b ∨ Fp v' b, ⟨v0, v1, v', blk_set hb1 3 v', ((h0.below hB).only ho (fun b h h' => a02 b h h')).setCell (fun hf => h0.ne_ hb hte hf) _, ((h1.below hB).only ho (fun b h h' => a12 b h h')).setCell (fun hf => h1.ne_ hb hte hf) _, h'.setCell (fun hf => (hfp g hf).elim (h2.ne_ hb hte) (fun h => absurd (Nat.le_trans hB.size h) (by have := blk_lt hb; omega))) _, a01, fun b h h' => (hfp b h').elim (fun h' => a02 b h h') (fun h' => absurd (Nat.le_trans hB.size h') (by have := h0.lt b h; omega)), fun b h h' => (hfp b h').elim (fun h' => a12 b h h') (fun h' => absurd (Nat.le_trans hB.size h') (by have := h1.lt b h; omega)), ?_, ?_, hOk⟩, ?_, ?_⟩
  · rintro b (rfl | h | h | h)
    · exact .inl (hok b (.inl rfl))
    · exact .inl (hok b (.inr (.inl h)))
    · exact .inl (hok b (.inr (.inr (.inl h))))
    · exact .inr h
  · rintro b (h | h)
    · have := hlt b h
      simp only [World.setCell, Array.size_modify]; omega
    · have := h'.lt b h
      simp only [World.setCell, Array.size_modify]; omega
  · refine Only.setCell ?_ (.inl (hok _ (.inl rfl))) _
    exact (Only.of_below hB ok).trans ho (fun b h => .inl (hok b (.inr (.inr (.inr h)))))
  · rintro b (h | h)
    · exact .inl h
    · rcases hfp b h with h | h
      · exact .inl (hok b (.inr (.inr (.inr h))))
      · exact .inr (Nat.le_trans hB.size h)

theorem below_drewN {B : Nat} {a w : World} (h : Below B a w) (n : Nat) : Below B a (w.drewN n) := ⟨h.os, h.tape, h.output, h.size, h.block⟩
theorem cl_a {w : World} {a : Addr} {v : Value} (h : w.cell? a = some v) (o : Obj) : (w.alloc o).cell? a = some v :=
  (World.cell?_alloc_lt w o a (World.block_lt_of_cell? w a h)).trans h
theorem cl_ad {w : World} {a : Addr} {v : Value} (h : w.cell? a = some v) (o : Obj) (n : Nat) : ((w.alloc o).drewN n).cell? a = some v := cl_a h o
/-- One event in a block of its own. -/
theorem rd_one {w : World} {g t : Nat} {e : Ev} (h : w.heap[g]? = some (.cells e.cs.toArray t (0, 0))) : Rd w (fun _ => True) 4 (.slice (some ⟨g, 0, none⟩) 1 1) 1 (cells [e]) := by
  refine ⟨rfl, _, _, rfl, Nat.le_refl _, fun _ => ⟨_, rfl, trivial, fun j u hu => ?_⟩⟩
  rw [add_at, Nat.zero_add, blk_cell h j]
  simpa [cells] using hu
theorem blk_new {w : World} {o : Obj} {H : Nat} (h : H = w.heap.size) : (w.alloc o).heap[H]? = some o := by
  subst h
  exact heap_alloc_new w o
end Go.Proofs.Ytbobjecjopmnfaa
