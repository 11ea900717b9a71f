/- The walk of works (the statements'): the chapter's examples. -/
import Derived.Test.YtbobjecjopmnfaaG1
namespace Go.Proofs.Ytbobjecjopmnfaa
open Go.RowKit
/-- A pool lies there, above B; boxes that it does not reach. -/
def Solo (B : Nat) (w0 w : World) (p : Nat) (m : M) (bx : List (Nat × Obj)) : Prop :=
  B ≤ w0.heap.size ∧ Below B w0 w ∧ ∃ okp, At w 90 31 okp p m ∧ (∀ b, okp b → B ≤ b) ∧ ∀ x ∈ bx, w.heap[x.1]? = some x.2 ∧ ¬ okp x.1
theorem Solo.drew {B p : Nat} {w0 w : World} {m : M} {bx : List (Nat × Obj)} (D : Solo B w0 w p m bx) : Solo B w0 w.drew p m bx := by
  obtain ⟨h0, h1, h2⟩ := D
  exact ⟨h0, h1.drew, h2⟩
theorem Solo.below {B p : Nat} {w0 w w' : World} {m : M} {bx : List (Nat × Obj)} (D : Solo B w0 w p m bx) (hb : Below w.heap.size w w') : Solo B w0 w' p m bx := by
  obtain ⟨h0, h1, okp, hp, np, hx⟩ := D
  exact ⟨h0, h1.trans (hb.mono (Nat.le_trans h0 h1.size)), okp, hp.below hb, np, fun x hm => ⟨(hb.block _ (blk_lt (hx x hm).1)).trans (hx x hm).1, (hx x hm).2⟩⟩
theorem Solo.alloc {B p : Nat} {w0 w : World} {m : M} {bx : List (Nat × Obj)} (D : Solo B w0 w p m bx) (o : Obj) : Solo B w0 (w.alloc o) p m ((w.heap.size, o) :: bx) := by
  have hb := (Below.refl w.heap.size w).alloc (Nat.le_refl _) o
  obtain ⟨h0, h1, okp, hp, np, hx⟩ := D
  refine ⟨h0, h1.trans (hb.mono (Nat.le_trans h0 h1.size)), okp, hp.below hb, np, fun x hm => ?_⟩
  rcases List.mem_cons.1 hm with rfl | hm
  · exact ⟨blk_new rfl, fun h => absurd (hp.lt _ h) (Nat.lt_irrefl _)⟩
  · exact ⟨(hb.block _ (blk_lt (hx x hm).1)).trans (hx x hm).1, (hx x hm).2⟩
theorem Solo.box {B p g : Nat} {o : Obj} {w0 w : World} {m : M} {bx : List (Nat × Obj)} (D : Solo B w0 w p m bx) (h : (g, o) ∈ bx) : w.heap[g]? = some o := by
  obtain ⟨h0, h1, okp, hp, np, hx⟩ := D
  exact (hx _ h).1
theorem Solo.turn {B p : Nat} {w0 w : World} {m m' : M} {bx : List (Nat × Obj)} {F : FuncId} {args : Array Value} {v : Value} (D : Solo B w0 w p m bx)
    (c : ∀ ok, At w 90 31 ok p m → Calls Try.prog F args w fun e w' => e = .returned v ∧ Turned 90 31 ok p m' w w') : Calls Try.prog F args w fun e w' => e = .returned v ∧ Solo B w0 w' p m' bx := by
  obtain ⟨h0, h1, okp, hp, np, hx⟩ := D
  refine (c okp hp).mono ?_
  rintro e w' ⟨he, ok', hp', ho, hk⟩
  have hBw : B ≤ w.heap.size := Nat.le_trans h0 h1.size
  refine ⟨he, h0, h1.trans (ho.below np hBw), ok', hp', fun b h => ?_, fun x hm => ?_⟩
  · rcases hk b h with h2 | h2
    · exact np b h2
    · omega
  · obtain ⟨hg, hn1⟩ := hx x hm
    refine ⟨(ho.block _ (blk_lt hg) hn1).trans hg, fun h => ?_⟩
    rcases hk _ h with h2 | h2
    · exact hn1 h2
    · exact absurd (blk_lt hg) (by omega)
theorem Solo.put {B p : Nat} {w0 w : World} {m m' : M} {bx : List (Nat × Obj)} {k : Int} {nm : ByteArray} {ar pl v : Int} (D : Solo B w0 w p m bx) (h : m.put ⟨k, nm, ar, pl⟩ = (m', v)) :
    Calls Try.prog 19 #[.pointer (some ⟨p, 0, none⟩), .agg #[.int .u8 k, .string nm, .int .i64 ar, .int .i64 pl]] w fun e w' => e = .returned (.int .i64 v) ∧ Solo B w0 w' p m' bx :=
  D.turn fun ok hp => by
    have c := put_any k nm ar pl w hp
    rw [h] at c
    exact c
theorem Solo.defer {B p : Nat} {w0 w : World} {m m' : M} {bx : List (Nat × Obj)} {k : Int} {nm : ByteArray} {ar pl v : Int} (D : Solo B w0 w p m bx) (h : m.defer ⟨k, nm, ar, pl⟩ = (m', v)) :
    Calls Try.prog 20 #[.pointer (some ⟨p, 0, none⟩), .agg #[.int .u8 k, .string nm, .int .i64 ar, .int .i64 pl]] w fun e w' => e = .returned (.int .i64 v) ∧ Solo B w0 w' p m' bx :=
  D.turn fun ok hp => by
    have c := defer_any k nm ar pl w hp
    rw [h] at c
    exact c
theorem Solo.recall {B p : Nat} {w0 w : World} {m m' : M} {bx : List (Nat × Obj)} {v : Int} (D : Solo B w0 w p m bx) (h : m.recall = (m', v)) :
    Calls Try.prog 21 #[.pointer (some ⟨p, 0, none⟩)] w fun e w' => e = .returned (.int .i64 v) ∧ Solo B w0 w' p m' bx :=
  D.turn fun ok hp => by
    have c := recall_any w hp
    rw [h] at c
    exact c
theorem Solo.next {B p : Nat} {w0 w : World} {m m' : M} {bx : List (Nat × Obj)} {k : Int} {nm : ByteArray} {ar pl : Int} {b : Bool} (D : Solo B w0 w p m bx) (h : m.next = (m', ⟨k, nm, ar, pl⟩, b)) :
    Calls Try.prog 23 #[.pointer (some ⟨p, 0, none⟩)] w fun e w' => e = .returned (.tuple #[.agg #[.int .u8 k, .string nm, .int .i64 ar, .int .i64 pl], .bool b]) ∧ Solo B w0 w' p m' bx :=
  D.turn fun ok hp => by
    have c := next_any w hp
    rw [h] at c
    exact c
theorem Solo.gone {B p : Nat} {w0 w : World} {m m' : M} {bx : List (Nat × Obj)} {k pl v : Int} (D : Solo B w0 w p m bx) (h : m.gone k pl = (m', v)) :
    Calls Try.prog 26 #[.pointer (some ⟨p, 0, none⟩), .int .u8 k, .int .i64 pl] w fun e w' => e = .returned (.int .i64 v) ∧ Solo B w0 w' p m' bx :=
  D.turn fun ok hp => by
    have c := gone_all k pl w hp
    rw [h] at c
    exact c
theorem Solo.len {B p : Nat} {w0 w : World} {m : M} {bx : List (Nat × Obj)} {n : Nat} (D : Solo B w0 w p m bx) (h : m.len = n) :
    Calls Try.prog 24 #[.pointer (some ⟨p, 0, none⟩)] w fun e w' => e = .returned (.int .i64 n) ∧ w' = w := by
  obtain ⟨h0, h1, okp, hp, np, hx⟩ := D
  rw [← h]
  exact plen_any w hp
theorem Solo.new (room : Int) (w : World) (bx : List (Nat × Obj)) (hx : ∀ x ∈ bx, w.heap[x.1]? = some x.2) : Solo w.heap.size w (w.alloc (pool0 room 90)) w.heap.size (M.fresh room) bx :=
  ⟨Nat.le_refl _, (Below.refl _ _).alloc (Nat.le_refl _) _, _, At.fresh room 90 31 w, fun b hb => by subst hb; exact Nat.le_refl _,
    fun x hm => ⟨(Below.heap_alloc w _ _ (blk_lt (hx x hm))).trans (hx x hm), fun h => absurd (blk_lt (hx x hm)) (by rw [h]; exact Nat.lt_irrefl _)⟩⟩
abbrev wa : Ev := ⟨2, ⟨#[97]⟩, 0, 0⟩
abbrev wb : Ev := ⟨2, ⟨#[98]⟩, 0, 0⟩
abbrev wc : Ev := ⟨2, ⟨#[99]⟩, 0, 0⟩
abbrev wd : Ev := ⟨1, ⟨#[]⟩, 0, 5⟩
abbrev wt (n : Int) : Ev := ⟨3, ⟨#[]⟩, 0, n⟩
theorem may_a : may wa = true := by kernel_rfl
theorem may_b : may wb = true := by kernel_rfl
theorem may_c : may wc = true := by kernel_rfl
theorem may_d : may wd = true := by kernel_rfl
theorem may_t2 : may (wt 2) = true := by kernel_rfl
theorem may_t3 : may (wt 3) = true := by kernel_rfl
theorem ev1 : M.put (M.fresh 3) wa = (⟨3, [], [wa], []⟩, 0) := by
  rw [show M.fresh 3 = ⟨3, [], [], []⟩ from rfl]
  simp [M.put, may_a, M.len]
theorem ev2 : M.put ⟨3, [], [wa], []⟩ wd = (⟨3, [wd], [wa], []⟩, 0) := by simp [M.put, may_d, M.len]
theorem ev3 : M.defer ⟨3, [wd], [wa], []⟩ wb = (⟨3, [wd], [wa], [wb]⟩, 0) := by simp [M.defer, may_b, M.len]
theorem ev4 : M.put ⟨3, [wd], [wa], [wb]⟩ wc = (⟨3, [wd], [wa], [wb]⟩, 240) := by simp [M.put, may_c, M.len]
theorem ev5 : M.next ⟨3, [wd], [wa], [wb]⟩ = (⟨3, [], [wa], [wb]⟩, wd, true) := rfl
theorem ev6 : M.recall ⟨3, [], [wa], [wb]⟩ = (⟨3, [], [wb, wa], []⟩, 1) := rfl
theorem ev7 : M.next ⟨3, [], [wb, wa], []⟩ = (⟨3, [], [wa], []⟩, wb, true) := rfl
theorem ev8 : M.next ⟨3, [], [wa], []⟩ = (⟨3, [], [], []⟩, wa, true) := rfl
theorem ev9 : M.next ⟨3, [], [], []⟩ = (⟨3, [], [], []⟩, ⟨0, ⟨#[]⟩, 0, 0⟩, false) := rfl
theorem ev10 : M.put ⟨3, [], [], []⟩ (wt 2) = (⟨3, [], [wt 2], []⟩, 0) := by simp [M.put, may_t2, M.len]
theorem ev11 : M.put ⟨3, [], [wt 2], []⟩ (wt 3) = (⟨3, [], [wt 2, wt 3], []⟩, 0) := by simp [M.put, may_t3, M.len]
theorem ev12 : M.gone ⟨3, [], [wt 2, wt 3], []⟩ 3 2 = (⟨3, [], [wt 3], []⟩, 1) := by simp [M.gone, M.len, M.stays]

set_option maxHeartbeats 8000000 in
theorem works_any (w : World) : Calls Try.prog 13 #[] w fun e w' => e = .returned (.bool true) ∧ Below w.heap.size w w' := by
  have S0 := hide (Solo.new 3 w [] (fun _ h => by cases h))
  go_enter Try.func13, Try.ntmps13
  go_wp2_with fail
  go_at_call 14
  refine (pnew_any _ _).mono ?_
  rintro e _ ⟨rfl, rfl⟩
  go_wp2_with fail
  go_at_call 19
  refine (Solo.put S0.out ev1).mono ?_
  rintro e w1 ⟨rfl, d⟩
  have S1 := hide d
  clear d S0
  go_wp2_with fail
  go_at_call 19
  refine (Solo.put S1.out ev2).mono ?_
  rintro e w2 ⟨rfl, d⟩
  have S2 := hide d
  clear d S1
  go_wp2_with fail
  go_at_call 20
  refine (Solo.defer S2.out ev3).mono ?_
  rintro e w3 ⟨rfl, d⟩
  have S3 := hide d
  clear d S2
  go_wp2_with fail
  go_at_call 19
  refine (Solo.put S3.out ev4).mono ?_
  rintro e w4 ⟨rfl, d⟩
  have S4 := hide d
  clear d S3
  go_wp2_with fail
  go_at_call 23
  refine (Solo.next S4.out ev5).mono ?_
  rintro e w5 ⟨rfl, d⟩
  have S5 := hide d
  clear d S4
  have T5 := hide (S5.out.alloc (.cells #[.int .u8 1, .string ⟨#[]⟩, .int .i64 0, .int .i64 5] 31 (0, 0)))
  clear S5
  have S5 := T5
  clear T5
  go_wp2_with fail
  go_at_call 21
  refine (Solo.recall S5.out ev6).mono ?_
  rintro e w6 ⟨rfl, d⟩
  have S6 := hide d
  clear d S5
  go_wp2_with fail
  go_at_call 23
  refine (Solo.next S6.out ev7).mono ?_
  rintro e w7 ⟨rfl, d⟩
  have S7 := hide d
  clear d S6
  have T7 := hide (S7.out.alloc (.cells #[.int .u8 2, .string ⟨#[98]⟩, .int .i64 0, .int .i64 0] 31 (0, 0)))
  clear S7
  have S7 := T7
  clear T7
  go_wp2_with fail
  go_at_call 23
  refine (Solo.next S7.out ev8).mono ?_
  rintro e w8 ⟨rfl, d⟩
  have S8 := hide d
  clear d S7
  have T8 := hide (S8.out.alloc (.cells #[.int .u8 2, .string ⟨#[97]⟩, .int .i64 0, .int .i64 0] 31 (0, 0)))
  clear S8
  have S8 := T8
  clear T8
  go_wp2_with fail
  go_at_call 23
  refine (Solo.next S8.out ev9).mono ?_
  rintro e w9 ⟨rfl, d⟩
  have S9 := hide d
  clear d S8
  have T9 := hide (S9.out.alloc (.cells #[.int .u8 0, .string ⟨#[]⟩, .int .i64 0, .int .i64 0] 31 (0, 0)))
  clear S9
  have S9 := T9
  clear T9
  go_wp2_with fail
  go_at_call 19
  refine (Solo.put S9.out ev10).mono ?_
  rintro e w10 ⟨rfl, d⟩
  have S10 := hide d
  clear d S9
  go_wp2_with fail
  go_at_call 19
  refine (Solo.put S10.out ev11).mono ?_
  rintro e w11 ⟨rfl, d⟩
  have S11 := hide d
  clear d S10
  go_wp2_with fail
  go_at_call 26
  refine (Solo.gone S11.out ev12).mono ?_
  rintro e w12 ⟨rfl, d⟩
  have S12 := hide d
  clear d S11
  go_wp2_with fail
  go_at_call 24
  refine (Solo.len (n := 1) S12.out rfl).mono ?_
  rintro e _ ⟨rfl, rfl⟩
  obtain ⟨g0, g1, g2, g3⟩ := ebox (S12.out.box (.tail _ (.head _)))
  obtain ⟨f0, f1, f2, f3⟩ := ebox (S12.out.box (.tail _ (.tail _ (.head _))))
  obtain ⟨e0, e1, e2, e3⟩ := ebox (S12.out.box (.tail _ (.tail _ (.tail _ (.head _)))))
  have l1 := blk_lt (S12.out.box (.tail _ (.head _)))
  have l2 := blk_lt (S12.out.box (.tail _ (.tail _ (.head _))))
  have l3 := blk_lt (S12.out.box (.tail _ (.tail _ (.tail _ (.head _)))))
  go_wp2
  go_ret
  exact ⟨by simp, S12.out.2.1⟩
end Go.Proofs.Ytbobjecjopmnfaa
