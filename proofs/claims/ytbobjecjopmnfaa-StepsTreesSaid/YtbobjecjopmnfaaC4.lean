/- The walks of Put and Defer (the pool's). -/
import Derived.Test.YtbobjecjopmnfaaC3
namespace Go.Proofs.Ytbobjecjopmnfaa
open Go.RowKit
namespace M
def addD (m : M) (e : Ev) (b : Bool) : M × Int := if b = false then (m, 2) else if m.room ≤ m.len then (m, 240) else ({ m with D := m.D ++ [e] }, 0)
def addR (m : M) (e : Ev) (b : Bool) : M × Int := if b = false then (m, 2) else if m.room ≤ m.len then (m, 240) else ({ m with R := m.R ++ [e] }, 0)
def addF (m : M) (e : Ev) (b : Bool) : M × Int := if b = false then (m, 2) else if m.room ≤ m.len then (m, 240) else ({ m with F := m.F ++ [e] }, 0)
end M
theorem Ok_addD {m : M} (h : m.Ok) (e : Ev) (hr : ¬ m.room ≤ m.len) : M.Ok ⟨m.room, m.D ++ [e], m.R, m.F⟩ :=
  ⟨h.lo, h.hi, by have := h.fits; simp [M.len] at *; omega, h.calls⟩
theorem Ok_addR {m : M} (h : m.Ok) (e : Ev) (hr : ¬ m.room ≤ m.len) : M.Ok ⟨m.room, m.D, m.R ++ [e], m.F⟩ :=
  ⟨h.lo, h.hi, by have := h.fits; simp [M.len] at *; omega, h.calls⟩
theorem Ok_addF {m : M} (h : m.Ok) (e : Ev) (hr : ¬ m.room ≤ m.len) (he : e.k = 2) : M.Ok ⟨m.room, m.D, m.R, m.F ++ [e]⟩ :=
  ⟨h.lo, h.hi, by have := h.fits; simp [M.len] at *; omega, fun x hx => by
    rcases List.mem_append.1 hx with hx | hx
    · exact h.calls x hx
    · rw [List.mem_singleton.1 hx]; exact he⟩
theorem add0_any {g : Nat} {m : M} {ok : Nat → Prop} (k : Int) (nm : ByteArray) (ar pl : Int) (b : Bool) (w : World) (h : At w 90 31 ok g m) :
    Calls Try.prog 59 #[.pointer (some ⟨g, 0, none⟩), .int .i64 0, .agg #[.int .u8 k, .string nm, .int .i64 ar, .int .i64 pl], .bool b] w
      fun e w' => e = .returned (.int .i64 (m.addD ⟨k, nm, ar, pl⟩ b).2) ∧ Turned 90 31 ok g (m.addD ⟨k, nm, ar, pl⟩ b).1 w w' := by
  cases b with
  | false => exact (add_bad g 0 k nm ar pl w).mono fun e w' ⟨h1, h2⟩ => ⟨h1, Turned.of_below h h2⟩
  | true =>
    by_cases hr : m.room ≤ m.len
    · exact (add_full 0 k nm ar pl w h hr).mono fun e w' ⟨h1, h2⟩ => by simp only [M.addD]; rw [if_neg (by simp), if_pos hr]; exact ⟨h1, Turned.of_below h h2⟩
    · have hOk := Ok_addD h.ok ⟨k, nm, ar, pl⟩ hr
      obtain ⟨room, D, R, F⟩ := m
      exact (add0_ok k nm ar pl w h (by simp at hr; omega) hOk).mono fun e w' ⟨h1, h2⟩ => by simp only [M.addD]; rw [if_neg (by simp), if_neg hr]; exact ⟨h1, h2⟩
theorem add1_any {g : Nat} {m : M} {ok : Nat → Prop} (k : Int) (nm : ByteArray) (ar pl : Int) (b : Bool) (w : World) (h : At w 90 31 ok g m) :
    Calls Try.prog 59 #[.pointer (some ⟨g, 0, none⟩), .int .i64 1, .agg #[.int .u8 k, .string nm, .int .i64 ar, .int .i64 pl], .bool b] w
      fun e w' => e = .returned (.int .i64 (m.addR ⟨k, nm, ar, pl⟩ b).2) ∧ Turned 90 31 ok g (m.addR ⟨k, nm, ar, pl⟩ b).1 w w' := by
  cases b with
  | false => exact (add_bad g 1 k nm ar pl w).mono fun e w' ⟨h1, h2⟩ => ⟨h1, Turned.of_below h h2⟩
  | true =>
    by_cases hr : m.room ≤ m.len
    · exact (add_full 1 k nm ar pl w h hr).mono fun e w' ⟨h1, h2⟩ => by simp only [M.addR]; rw [if_neg (by simp), if_pos hr]; exact ⟨h1, Turned.of_below h h2⟩
    · have hOk := Ok_addR h.ok ⟨k, nm, ar, pl⟩ hr
      obtain ⟨room, D, R, F⟩ := m
      exact (add1_ok k nm ar pl w h (by simp at hr; omega) hOk).mono fun e w' ⟨h1, h2⟩ => by simp only [M.addR]; rw [if_neg (by simp), if_neg hr]; exact ⟨h1, h2⟩
theorem add2_any {g : Nat} {m : M} {ok : Nat → Prop} (k : Int) (nm : ByteArray) (ar pl : Int) (b : Bool) (hk : b = true → k = 2) (w : World) (h : At w 90 31 ok g m) :
    Calls Try.prog 59 #[.pointer (some ⟨g, 0, none⟩), .int .i64 2, .agg #[.int .u8 k, .string nm, .int .i64 ar, .int .i64 pl], .bool b] w
      fun e w' => e = .returned (.int .i64 (m.addF ⟨k, nm, ar, pl⟩ b).2) ∧ Turned 90 31 ok g (m.addF ⟨k, nm, ar, pl⟩ b).1 w w' := by
  cases b with
  | false => exact (add_bad g 2 k nm ar pl w).mono fun e w' ⟨h1, h2⟩ => ⟨h1, Turned.of_below h h2⟩
  | true =>
    by_cases hr : m.room ≤ m.len
    · exact (add_full 2 k nm ar pl w h hr).mono fun e w' ⟨h1, h2⟩ => by simp only [M.addF]; rw [if_neg (by simp), if_pos hr]; exact ⟨h1, Turned.of_below h h2⟩
    · have hOk := Ok_addF h.ok ⟨k, nm, ar, pl⟩ hr (hk rfl)
      obtain ⟨room, D, R, F⟩ := m
      exact (add2_ok k nm ar pl w h (by simp at hr; omega) hOk).mono fun e w' ⟨h1, h2⟩ => by simp only [M.addF]; rw [if_neg (by simp), if_neg hr]; exact ⟨h1, h2⟩
theorem put_eq (m : M) (e : Ev) : m.put e = if e.k = 1 then m.addD e (may e) else m.addR e (may e) := by
  unfold M.put M.addD M.addR
  by_cases h : e.k = 1 <;> simp [h]
theorem defer_eq (m : M) (e : Ev) : m.defer e = m.addF e (e.k == 2 && may e) := by
  unfold M.defer M.addF
  by_cases h : e.k = 2 <;> cases hm : may e <;> simp [h]
theorem below_then {w w1 w2 : World} (h : Below w.heap.size w w1) (k : Below w1.heap.size w1 w2) : Below w.heap.size w w2 :=
  h.trans ⟨k.os, k.tape, k.output, k.size, fun i hi => k.block i (Nat.lt_of_lt_of_le hi h.size)⟩
theorem Turned.before {t e g : Nat} {ok : Nat → Prop} {m : M} {w w1 w2 : World} (h : Below w.heap.size w w1) (k : Turned t e ok g m w1 w2) : Turned t e ok g m w w2 := by
  obtain ⟨ok', h1, h2, h3⟩ := k
  refine ⟨ok', h1, (Only.of_below h ok).trans h2 (fun b hb => .inl hb), fun b hb => ?_⟩
  rcases h3 b hb with h4 | h4
  · exact .inl h4
  · exact .inr (Nat.le_trans h.size h4)
theorem Turned.after {t e g : Nat} {ok : Nat → Prop} {m : M} {w w1 w2 : World} (k : Turned t e ok g m w w1) (h : Below w1.heap.size w1 w2) : Turned t e ok g m w w2 := by
  obtain ⟨ok', h1, h2, h3⟩ := k
  exact ⟨ok', h1.below h, h2.trans (Only.of_below h ok) (fun b hb => .inl hb), h3⟩
/-- Behind a call that made memory, a box having been laid and an order drawn ahead of it. -/
theorem box_drew {w w2 : World} {cs : Array Value} {t : Nat} (hb : Below (w.alloc (.cells cs t)).drew.heap.size (w.alloc (.cells cs t)).drew w2) : w2.heap[w.heap.size]? = some (.cells cs t (0, 0)) ∧ Below w.heap.size w w2 :=
  ⟨(hb.block w.heap.size (by simp)).trans (heap_alloc_new w _), below_then ((Below.refl _ _).alloc (Nat.le_refl _) _).drew hb⟩
theorem box_below {w w2 : World} {cs : Array Value} {t : Nat} (hb : Below (w.alloc (.cells cs t)).heap.size (w.alloc (.cells cs t)) w2) : w2.heap[w.heap.size]? = some (.cells cs t (0, 0)) :=
  (hb.block w.heap.size (by simp)).trans (heap_alloc_new w _)
set_option maxHeartbeats 400000 in
theorem put_any {g : Nat} {m : M} {ok : Nat → Prop} (k : Int) (nm : ByteArray) (ar pl : Int) (w : World) (h : At w 90 31 ok g m) :
    Calls Try.prog 19 #[.pointer (some ⟨g, 0, none⟩), .agg #[.int .u8 k, .string nm, .int .i64 ar, .int .i64 pl]] w
      fun e w' => e = .returned (.int .i64 (m.put ⟨k, nm, ar, pl⟩).2) ∧ Turned 90 31 ok g (m.put ⟨k, nm, ar, pl⟩).1 w w' := by
  have H := hide h
  clear h
  by_cases hk : k = 1
  · have hk' : (k == 1) = true := by simpa using hk
    have HK := hide hk
    clear hk
    go_enter Try.func19, Try.ntmps19
    go_wp2
    go_region_law (first | (go_simp; go_at_call 55; refine (pmay_any k nm ar pl _).mono ?_; rintro e w2 ⟨rfl, hb2⟩; obtain ⟨hbx, hb3⟩ := box_drew hb2; have k0 := blk_cell hbx 0; have k1 := blk_cell hbx 1; have k2 := blk_cell hbx 2; have k3 := blk_cell hbx 3; simp at k0 k1 k2 k3; clear hbx; have HB2 := hide hb3; clear hb2 hb3) | (go_simp; go_at_call 59; refine (add0_any k nm ar pl _ _ (H.out.below HB2.out)).mono ?_; rintro e w3 ⟨rfl, ht⟩; have HT := hide ht; clear ht))
    all_goals
      go_wp2
      go_ret
      rw [put_eq, if_pos HK.out]
      exact ⟨rfl, HT.out.before HB2.out⟩
  · have hk' : (k == 1) = false := by simpa using hk
    have HK := hide hk
    clear hk
    go_enter Try.func19, Try.ntmps19
    go_wp2
    go_region_law (first | (go_simp; go_at_call 55; refine (pmay_any k nm ar pl _).mono ?_; rintro e w2 ⟨rfl, hb2⟩; obtain ⟨hbx, hb3⟩ := box_drew hb2; have k0 := blk_cell hbx 0; have k1 := blk_cell hbx 1; have k2 := blk_cell hbx 2; have k3 := blk_cell hbx 3; simp at k0 k1 k2 k3; clear hbx; have HB2 := hide hb3; clear hb2 hb3) | (go_simp; go_at_call 59; refine (add1_any k nm ar pl _ _ (H.out.below HB2.out)).mono ?_; rintro e w3 ⟨rfl, ht⟩; have HT := hide ht; clear ht))
    all_goals
      go_wp2
      go_ret
      rw [put_eq, if_neg HK.out]
      exact ⟨rfl, HT.out.before HB2.out⟩
set_option maxHeartbeats 400000 in
theorem defer_any {g : Nat} {m : M} {ok : Nat → Prop} (k : Int) (nm : ByteArray) (ar pl : Int) (w : World) (h : At w 90 31 ok g m) :
    Calls Try.prog 20 #[.pointer (some ⟨g, 0, none⟩), .agg #[.int .u8 k, .string nm, .int .i64 ar, .int .i64 pl]] w
      fun e w' => e = .returned (.int .i64 (m.defer ⟨k, nm, ar, pl⟩).2) ∧ Turned 90 31 ok g (m.defer ⟨k, nm, ar, pl⟩).1 w w' := by
  have H := hide h
  clear h
  by_cases hk : k = 2
  · have hk' : (k == 2) = true := by simpa using hk
    have HK := hide hk
    clear hk
    go_enter Try.func20, Try.ntmps20
    go_wp2
    go_region_law (first | (go_simp; go_at_call 55; refine (pmay_any k nm ar pl _).mono ?_; rintro e w2 ⟨rfl, hb2⟩; obtain ⟨hbx, hb3⟩ := box_drew hb2; have k0 := blk_cell hbx 0; have k1 := blk_cell hbx 1; have k2 := blk_cell hbx 2; have k3 := blk_cell hbx 3; simp at k0 k1 k2 k3; clear hbx; have HB2 := hide hb3; clear hb2 hb3) | (go_simp; go_at_call 59; refine (add2_any k nm ar pl _ (fun _ => HK.out) _ (H.out.below HB2.out)).mono ?_; rintro e w3 ⟨rfl, ht⟩; have HT := hide ht; clear ht))
    all_goals
      go_wp2
      go_ret
      rw [defer_eq]
      simp only [hk', Bool.true_and]
      exact ⟨rfl, HT.out.before HB2.out⟩
  · have hk' : (k == 2) = false := by simpa using hk
    clear hk
    go_enter Try.func20, Try.ntmps20
    go_wp2
    go_region_law ((go_simp; go_at_call 59; refine (add2_any k nm ar pl false (fun h => by cases h) _ (H.out.below (((Below.refl _ _).alloc (Nat.le_refl _) _).drew))).mono ?_; rintro e w3 ⟨rfl, ht⟩; have HT := hide ht; clear ht))
    all_goals
      go_wp2
      go_ret
      rw [defer_eq]
      simp only [hk', Bool.false_and]
      exact ⟨rfl, HT.out.before (((Below.refl _ _).alloc (Nat.le_refl _) _).drew)⟩
/-- Of a pool that is not there. -/
theorem put_nil (k : Int) (nm : ByteArray) (ar pl : Int) (w : World) :
    Calls Try.prog 19 #[.pointer none, .agg #[.int .u8 k, .string nm, .int .i64 ar, .int .i64 pl]] w fun e w' => e = .returned (.int .i64 1) ∧ Below w.heap.size w w' := by
  have hk' : (k == 1) = true ∨ (k == 1) = false := by cases (k == 1) <;> simp
  rcases hk' with hk' | hk'
  · go_enter Try.func19, Try.ntmps19
    go_wp2
    go_region_law (first | (go_simp; go_at_call 55; refine (pmay_any k nm ar pl _).mono ?_; rintro e w2 ⟨rfl, hb2⟩; obtain ⟨hbx, hb3⟩ := box_drew hb2; have k0 := blk_cell hbx 0; have k1 := blk_cell hbx 1; have k2 := blk_cell hbx 2; have k3 := blk_cell hbx 3; simp at k0 k1 k2 k3; clear hbx; have HB2 := hide hb3; clear hb2 hb3) | (go_simp; go_at_call 59; refine (add_nil _ k nm ar pl _ _).mono ?_; rintro e w3 ⟨rfl, hb3⟩; have HB3 := hide hb3; clear hb3))
    all_goals
      go_wp2
      go_ret
      exact ⟨rfl, below_then HB2.out HB3.out⟩
  · go_enter Try.func19, Try.ntmps19
    go_wp2
    go_region_law (first | (go_simp; go_at_call 55; refine (pmay_any k nm ar pl _).mono ?_; rintro e w2 ⟨rfl, hb2⟩; obtain ⟨hbx, hb3⟩ := box_drew hb2; have k0 := blk_cell hbx 0; have k1 := blk_cell hbx 1; have k2 := blk_cell hbx 2; have k3 := blk_cell hbx 3; simp at k0 k1 k2 k3; clear hbx; have HB2 := hide hb3; clear hb2 hb3) | (go_simp; go_at_call 59; refine (add_nil _ k nm ar pl _ _).mono ?_; rintro e w3 ⟨rfl, hb3⟩; have HB3 := hide hb3; clear hb3))
    all_goals
      go_wp2
      go_ret
      exact ⟨rfl, below_then HB2.out HB3.out⟩
theorem defer_nil (k : Int) (nm : ByteArray) (ar pl : Int) (w : World) :
    Calls Try.prog 20 #[.pointer none, .agg #[.int .u8 k, .string nm, .int .i64 ar, .int .i64 pl]] w fun e w' => e = .returned (.int .i64 1) ∧ Below w.heap.size w w' := by
  have hk' : (k == 2) = true ∨ (k == 2) = false := by cases (k == 2) <;> simp
  rcases hk' with hk' | hk'
  · go_enter Try.func20, Try.ntmps20
    go_wp2
    go_region_law (first | (go_simp; go_at_call 55; refine (pmay_any k nm ar pl _).mono ?_; rintro e w2 ⟨rfl, hb2⟩; obtain ⟨hbx, hb3⟩ := box_drew hb2; have k0 := blk_cell hbx 0; have k1 := blk_cell hbx 1; have k2 := blk_cell hbx 2; have k3 := blk_cell hbx 3; simp at k0 k1 k2 k3; clear hbx; have HB2 := hide hb3; clear hb2 hb3) | (go_simp; go_at_call 59; refine (add_nil _ k nm ar pl _ _).mono ?_; rintro e w3 ⟨rfl, hb3⟩; have HB3 := hide hb3; clear hb3))
    all_goals
      go_wp2
      go_ret
      exact ⟨rfl, below_then HB2.out HB3.out⟩
  · go_enter Try.func20, Try.ntmps20
    go_wp2
    go_region_law ((go_simp; go_at_call 59; refine (add_nil _ k nm ar pl _ _).mono ?_; rintro e w3 ⟨rfl, hb3⟩; have HB3 := hide hb3; clear hb3))
    all_goals
      go_wp2
      go_ret
      exact ⟨rfl, below_then (((Below.refl _ _).alloc (Nat.le_refl _) _).drew) HB3.out⟩
end Go.Proofs.Ytbobjecjopmnfaa
