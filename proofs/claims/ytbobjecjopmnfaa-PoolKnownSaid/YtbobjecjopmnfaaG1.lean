/- The walk of does (the statements'): a call, to both. -/
import Derived.Test.YtbobjecjopmnfaaF3
namespace Go.Proofs.Ytbobjecjopmnfaa
open Go.RowKit
/-- A pool and its reference lie there, apart, above B; boxes that neither reaches. -/
def Duo (B : Nat) (w0 w : World) (p r : Nat) (m n : M) (bx : List (Nat × Obj)) : Prop :=
  B ≤ w0.heap.size ∧ Below B w0 w ∧ ∃ okp okr, At w 90 31 okp p m ∧ At w 92 94 okr r n ∧ (∀ b, okp b → okr b → False) ∧ (∀ b, okp b → B ≤ b) ∧ (∀ b, okr b → B ≤ b) ∧ ∀ x ∈ bx, w.heap[x.1]? = some x.2 ∧ ¬ okp x.1 ∧ ¬ okr x.1
theorem Duo.drew {B p r : Nat} {w0 w : World} {m n : M} {bx : List (Nat × Obj)} (D : Duo B w0 w p r m n bx) : Duo B w0 w.drew p r m n bx := by
  obtain ⟨h0, h1, h2⟩ := D
  exact ⟨h0, h1.drew, h2⟩
theorem Duo.below {B p r : Nat} {w0 w w' : World} {m n : M} {bx : List (Nat × Obj)} (D : Duo B w0 w p r m n bx) (hb : Below w.heap.size w w') : Duo B w0 w' p r m n bx := by
  obtain ⟨h0, h1, okp, okr, hp, hr, dis, np, nr, hx⟩ := D
  exact ⟨h0, h1.trans (hb.mono (Nat.le_trans h0 h1.size)), okp, okr, hp.below hb, hr.below hb, dis, np, nr, fun x hm => ⟨(hb.block _ (blk_lt (hx x hm).1)).trans (hx x hm).1, (hx x hm).2⟩⟩
theorem Duo.alloc {B p r : Nat} {w0 w : World} {m n : M} {bx : List (Nat × Obj)} (D : Duo B w0 w p r m n bx) (o : Obj) : Duo B w0 (w.alloc o) p r m n ((w.heap.size, o) :: bx) := by
  obtain ⟨h0, h1, okp, okr, hp, hr, dis, np, nr, hx⟩ := D.below ((Below.refl w.heap.size w).alloc (Nat.le_refl _) o)
  obtain ⟨-, -, okp', okr', hp', hr', dis', np', nr', hx'⟩ := D
  refine ⟨h0, h1, okp', okr', hp'.below ((Below.refl w.heap.size w).alloc (Nat.le_refl _) o), hr'.below ((Below.refl w.heap.size w).alloc (Nat.le_refl _) o), dis', np', nr', fun x hm => ?_⟩
  rcases List.mem_cons.1 hm with rfl | hm
  · exact ⟨blk_new rfl, fun h => absurd (hp'.lt _ h) (Nat.lt_irrefl _), fun h => absurd (hr'.lt _ h) (Nat.lt_irrefl _)⟩
  · exact ⟨(hx x hm).1, (hx' x hm).2⟩
theorem Duo.drop {B p r : Nat} {w0 w : World} {m n : M} {bx cx : List (Nat × Obj)} (D : Duo B w0 w p r m n bx) (h : ∀ x ∈ cx, x ∈ bx) : Duo B w0 w p r m n cx := by
  obtain ⟨h0, h1, okp, okr, hp, hr, dis, np, nr, hx⟩ := D
  exact ⟨h0, h1, okp, okr, hp, hr, dis, np, nr, fun x hm => hx x (h x hm)⟩
theorem Duo.box {B p r g : Nat} {o : Obj} {w0 w : World} {m n : M} {bx : List (Nat × Obj)} (D : Duo B w0 w p r m n bx) (h : (g, o) ∈ bx) : w.heap[g]? = some o := by
  obtain ⟨h0, h1, okp, okr, hp, hr, dis, np, nr, hx⟩ := D
  exact (hx _ h).1
theorem Duo.turnP {B p r : Nat} {w0 w : World} {m m' n : M} {bx : List (Nat × Obj)} {F : FuncId} {args : Array Value} {v : Value} (D : Duo B w0 w p r m n bx)
    (c : ∀ ok, At w 90 31 ok p m → Calls Try.prog F args w fun e w' => e = .returned v ∧ Turned 90 31 ok p m' w w') : Calls Try.prog F args w fun e w' => e = .returned v ∧ Duo B w0 w' p r m' n bx := by
  obtain ⟨h0, h1, okp, okr, hp, hr, dis, np, nr, hx⟩ := D
  refine (c okp hp).mono ?_
  rintro e w' ⟨he, ok', hp', ho, hk⟩
  have hBw : B ≤ w.heap.size := Nat.le_trans h0 h1.size
  refine ⟨he, h0, h1.trans (ho.below np hBw), ok', okr, hp', hr.only ho (fun b h h' => dis b h' h), fun b h h' => ?_, fun b h => ?_, nr, fun x hm => ?_⟩
  · rcases hk b h with h2 | h2
    · exact dis b h2 h'
    · exact absurd (hr.lt b h') (by omega)
  · rcases hk b h with h2 | h2
    · exact np b h2
    · omega
  · obtain ⟨hg, hn1, hn2⟩ := hx x hm
    refine ⟨(ho.block _ (blk_lt hg) hn1).trans hg, fun h => ?_, hn2⟩
    rcases hk _ h with h2 | h2
    · exact hn1 h2
    · exact absurd (blk_lt hg) (by omega)
theorem Duo.turnR {B p r : Nat} {w0 w : World} {m n n' : M} {bx : List (Nat × Obj)} {F : FuncId} {args : Array Value} {v : Value} (D : Duo B w0 w p r m n bx)
    (c : ∀ ok, At w 92 94 ok r n → Calls Try.prog F args w fun e w' => e = .returned v ∧ Turned 92 94 ok r n' w w') : Calls Try.prog F args w fun e w' => e = .returned v ∧ Duo B w0 w' p r m n' bx := by
  obtain ⟨h0, h1, okp, okr, hp, hr, dis, np, nr, hx⟩ := D
  refine (c okr hr).mono ?_
  rintro e w' ⟨he, ok', hr', ho, hk⟩
  have hBw : B ≤ w.heap.size := Nat.le_trans h0 h1.size
  refine ⟨he, h0, h1.trans (ho.below nr hBw), okp, ok', hp.only ho (fun b h h' => dis b h h'), hr', fun b h h' => ?_, np, fun b h => ?_, fun x hm => ?_⟩
  · rcases hk b h' with h2 | h2
    · exact dis b h h2
    · exact absurd (hp.lt b h) (by omega)
  · rcases hk b h with h2 | h2
    · exact nr b h2
    · omega
  · obtain ⟨hg, hn1, hn2⟩ := hx x hm
    refine ⟨(ho.block _ (blk_lt hg) hn2).trans hg, hn1, fun h => ?_⟩
    rcases hk _ h with h2 | h2
    · exact hn2 h2
    · exact absurd (blk_lt hg) (by omega)
theorem gone_same {m : M} {k pl : Int} (h1 : k ≠ 1) (h3 : k ≠ 3) : m.gone k pl = (m, 0) := if_pos ⟨h1, h3⟩
theorem gone_all {g : Nat} {m : M} {ok : Nat → Prop} (k pl : Int) (w : World) (h : At w 90 31 ok g m) :
    Calls Try.prog 26 #[.pointer (some ⟨g, 0, none⟩), .int .u8 k, .int .i64 pl] w fun e w' => e = .returned (.int .i64 (m.gone k pl).2) ∧ Turned 90 31 ok g (m.gone k pl).1 w w' := by
  by_cases h1 : k = 1
  · exact gone_any k pl w h (.inl h1)
  · by_cases h3 : k = 3
    · exact gone_any k pl w h (.inr h3)
    · rw [gone_same h1 h3]
      refine (gone_other g k pl w h1 h3).mono ?_
      rintro e w' ⟨he, hb⟩
      exact ⟨he, Turned.of_below h hb⟩
theorem rgone_all {g : Nat} {m : M} {ok : Nat → Prop} (k pl : Int) (w : World) (h : At w 92 94 ok g m) :
    Calls Try.prog 54 #[.pointer (some ⟨g, 0, none⟩), .int .u8 k, .int .i64 pl] w fun e w' => e = .returned (.int .i64 (m.gone k pl).2) ∧ Turned 92 94 ok g (m.gone k pl).1 w w' := by
  by_cases h1 : k = 1
  · exact rgone_any k pl w h (.inl h1)
  · by_cases h3 : k = 3
    · exact rgone_any k pl w h (.inr h3)
    · rw [gone_same h1 h3]
      refine (rgone_other g k pl w h1 h3).mono ?_
      rintro e w' ⟨he, rfl⟩
      exact ⟨he, Turned.of_below h (Below.refl _ _)⟩
theorem pmay_b {k : Int} {nm : ByteArray} {ar pl : Int} {b : Bool} (hb : may ⟨k, nm, ar, pl⟩ = b) (w : World) :
    Calls Try.prog 55 #[.agg #[.int .u8 k, .string nm, .int .i64 ar, .int .i64 pl]] w fun e w' => e = .returned (.bool b) ∧ Below w.heap.size w w' := by
  rw [← hb]
  exact pmay_any k nm ar pl w
/-- The model of one call. -/
def M.act (m : M) (a : Act) : M :=
  if a.kd % 7 = 2 then (m.defer a.e).1 else if a.kd % 7 = 3 then m.recall.1 else if a.kd % 7 = 4 ∨ a.kd % 7 = 5 then m.next.1 else if a.kd % 7 = 6 then (m.gone a.e.k a.e.pl).1 else (m.put a.e).1
/-- The box of an Act lies there. -/
def ABox (X : Nat) (kd k : Int) (nm : ByteArray) (ar pl : Int) (w : World) : Prop :=
  w.cell? ⟨X, 0, none⟩ = some (.int .i64 kd) ∧ w.cell? ⟨X, 1, none⟩ = some (.int .u8 k) ∧ w.cell? ⟨X, 2, none⟩ = some (.string nm) ∧ w.cell? ⟨X, 3, none⟩ = some (.int .i64 ar) ∧ w.cell? ⟨X, 4, none⟩ = some (.int .i64 pl)
theorem abox {X : Nat} {kd k : Int} {nm : ByteArray} {ar pl : Int} {w : World} {t : TypeId} (h : w.heap[X]? = some (.cells #[.int .i64 kd, .int .u8 k, .string nm, .int .i64 ar, .int .i64 pl] t (0, 0))) : ABox X kd k nm ar pl w :=
  ⟨blk_cell h 0, blk_cell h 1, blk_cell h 2, blk_cell h 3, blk_cell h 4⟩
theorem ebox {X : Nat} {k : Int} {nm : ByteArray} {ar pl : Int} {w : World} {t : TypeId} (h : w.heap[X]? = some (.cells #[.int .u8 k, .string nm, .int .i64 ar, .int .i64 pl] t (0, 0))) :
    w.cell? ⟨X, 0, none⟩ = some (.int .u8 k) ∧ w.cell? ⟨X, 1, none⟩ = some (.string nm) ∧ w.cell? ⟨X, 2, none⟩ = some (.int .i64 ar) ∧ w.cell? ⟨X, 3, none⟩ = some (.int .i64 pl) :=
  ⟨blk_cell h 0, blk_cell h 1, blk_cell h 2, blk_cell h 3⟩
theorem ebox2 {X Y : Nat} {k : Int} {nm : ByteArray} {ar pl : Int} {w : World} {t u : TypeId} (h : w.heap[X]? = some (.cells #[.int .u8 k, .string nm, .int .i64 ar, .int .i64 pl] t (0, 0))) (h' : w.heap[Y]? = some (.cells #[.int .u8 k, .string nm, .int .i64 ar, .int .i64 pl] u (0, 0))) :
    (w.cell? ⟨X, 0, none⟩ = some (.int .u8 k) ∧ w.cell? ⟨X, 1, none⟩ = some (.string nm) ∧ w.cell? ⟨X, 2, none⟩ = some (.int .i64 ar) ∧ w.cell? ⟨X, 3, none⟩ = some (.int .i64 pl)) ∧
    (w.cell? ⟨Y, 0, none⟩ = some (.int .u8 k) ∧ w.cell? ⟨Y, 1, none⟩ = some (.string nm) ∧ w.cell? ⟨Y, 2, none⟩ = some (.int .i64 ar) ∧ w.cell? ⟨Y, 3, none⟩ = some (.int .i64 pl)) :=
  ⟨ebox h, ebox h'⟩
abbrev aobj (kd k : Int) (nm : ByteArray) (ar pl : Int) : Obj := .cells #[.int .i64 kd, .int .u8 k, .string nm, .int .i64 ar, .int .i64 pl] 33 (0, 0)

section
attribute [local go_sem high] eqA94
set_option maxHeartbeats 8000000 in
theorem does_any {B p r : Nat} {w0 : World} {m : M} {bx : List (Nat × Obj)} (kd k : Int) (nm : ByteArray) (ar pl : Int) (w : World) (D : Duo B w0 w p r m m bx) :
    Calls Try.prog 16 #[.pointer (some ⟨p, 0, none⟩), .pointer (some ⟨r, 0, none⟩), .agg #[.int .i64 kd, .int .u8 k, .string nm, .int .i64 ar, .int .i64 pl]] w fun e w' => e = .returned (.bool true) ∧ Duo B w0 w' p r (m.act ⟨kd, ⟨k, nm, ar, pl⟩⟩) (m.act ⟨kd, ⟨k, nm, ar, pl⟩⟩) bx := by
  have D0 := hide (D.alloc (aobj kd k nm ar pl))
  clear D
  obtain ⟨c0, c1, c2, c3, c4⟩ := abox (D0.out.box (.head _))
  have hlt := blk_lt (D0.out.box (.head _))
  go_enter Try.func16, Try.ntmps16
  go_wp2_with fail
  go_at_call 18
  refine (pick_any kd _ 7 (by omega) (by omega)).mono ?_
  rintro e _ ⟨rfl, rfl⟩
  obtain ⟨q, hq⟩ : ∃ q, q = kd % 7 := ⟨_, rfl⟩
  rw [← hq]
  have hq7 : q = 0 ∨ q = 1 ∨ q = 2 ∨ q = 3 ∨ q = 4 ∨ q = 5 ∨ q = 6 := by omega
  have HQ := hide hq
  clear hq
  rcases hq7 with rfl | rfl | rfl | rfl | rfl | rfl | rfl
  · (have hmb : may ⟨k, nm, ar, pl⟩ = true ∨ may ⟨k, nm, ar, pl⟩ = false := by cases may ⟨k, nm, ar, pl⟩ <;> simp)
    rcases hmb with hmb | hmb
    all_goals
      have HM := hide hmb
      clear hmb
      go_wp2
      go_region_held3 (fun w' => w'.cell? ⟨w.heap.size, 0, none⟩ = some (.int .i64 kd) ∧ w'.cell? ⟨w.heap.size, 1, none⟩ = some (.int .u8 k) ∧ w'.cell? ⟨w.heap.size, 2, none⟩ = some (.string nm) ∧ w'.cell? ⟨w.heap.size, 3, none⟩ = some (.int .i64 ar) ∧ w'.cell? ⟨w.heap.size, 4, none⟩ = some (.int .i64 pl)) (first | exact HS.out | go_keep | assumption) (first | ((go_at_call 55); (refine (pmay_b HM.out _).mono ?_); rintro e w2 ⟨rfl, hb2⟩; have D2 := hide (D0.out.drew.below hb2); have HS := hide (abox (D2.out.box (.head _))); clear hb2) | ((go_at_call 56); (refine (rmay_b HM.out _).mono ?_); rintro e w4 ⟨rfl, hb4⟩; have D4 := hide (D3.out.below hb4); have HS := hide (abox (D4.out.box (.head _))); clear hb4) | ((go_at_call 19); (refine (Duo.turnP D4.out (fun ok h => put_any k nm ar pl _ h)).mono ?_); rintro e w5 ⟨rfl, d5⟩; have D5 := hide d5; have HS := hide (abox (d5.box (.head _))); clear d5) | ((go_at_call 57); (refine (Duo.turnR D6.out (fun ok h => rput_any k nm ar pl _ h)).mono ?_); rintro e w7 ⟨rfl, d7⟩; have D7 := hide d7; have HS := hide (abox (d7.box (.head _))); clear d7) | ((go_at_call 51); (refine (ref_any k nm ar pl _).mono ?_); rintro e w6 ⟨rfl, hb6⟩; have D6 := hide (D5.out.below hb6); have HS := hide (abox (D6.out.box (.head _))); clear hb6) | ((go_at_call 51); (refine (ref_any k nm ar pl _).mono ?_); rintro e w3 ⟨rfl, hb3⟩; have D3 := hide (D2.out.below hb3); have HS := hide (abox (D3.out.box (.head _))); clear hb3))
      go_wp2
      go_ret
      refine ⟨?_, ?_⟩
      · simp
      · have e1 : m.act ⟨kd, ⟨k, nm, ar, pl⟩⟩ = (m.put ⟨k, nm, ar, pl⟩).1 := by simp [M.act, ← HQ.out]
        rw [e1]
        exact D7.out.drop (fun x hx => .tail _ hx)
  · (have hmb : may ⟨k, nm, ar, pl⟩ = true ∨ may ⟨k, nm, ar, pl⟩ = false := by cases may ⟨k, nm, ar, pl⟩ <;> simp)
    rcases hmb with hmb | hmb
    all_goals
      have HM := hide hmb
      clear hmb
      go_wp2
      go_region_held3 (fun w' => w'.cell? ⟨w.heap.size, 0, none⟩ = some (.int .i64 kd) ∧ w'.cell? ⟨w.heap.size, 1, none⟩ = some (.int .u8 k) ∧ w'.cell? ⟨w.heap.size, 2, none⟩ = some (.string nm) ∧ w'.cell? ⟨w.heap.size, 3, none⟩ = some (.int .i64 ar) ∧ w'.cell? ⟨w.heap.size, 4, none⟩ = some (.int .i64 pl)) (first | exact HS.out | go_keep | assumption) (first | ((go_at_call 55); (refine (pmay_b HM.out _).mono ?_); rintro e w2 ⟨rfl, hb2⟩; have D2 := hide (D0.out.drew.below hb2); have HS := hide (abox (D2.out.box (.head _))); clear hb2) | ((go_at_call 56); (refine (rmay_b HM.out _).mono ?_); rintro e w4 ⟨rfl, hb4⟩; have D4 := hide (D3.out.below hb4); have HS := hide (abox (D4.out.box (.head _))); clear hb4) | ((go_at_call 19); (refine (Duo.turnP D4.out (fun ok h => put_any k nm ar pl _ h)).mono ?_); rintro e w5 ⟨rfl, d5⟩; have D5 := hide d5; have HS := hide (abox (d5.box (.head _))); clear d5) | ((go_at_call 57); (refine (Duo.turnR D6.out (fun ok h => rput_any k nm ar pl _ h)).mono ?_); rintro e w7 ⟨rfl, d7⟩; have D7 := hide d7; have HS := hide (abox (d7.box (.head _))); clear d7) | ((go_at_call 51); (refine (ref_any k nm ar pl _).mono ?_); rintro e w6 ⟨rfl, hb6⟩; have D6 := hide (D5.out.below hb6); have HS := hide (abox (D6.out.box (.head _))); clear hb6) | ((go_at_call 51); (refine (ref_any k nm ar pl _).mono ?_); rintro e w3 ⟨rfl, hb3⟩; have D3 := hide (D2.out.below hb3); have HS := hide (abox (D3.out.box (.head _))); clear hb3))
      go_wp2
      go_ret
      refine ⟨?_, ?_⟩
      · simp
      · have e1 : m.act ⟨kd, ⟨k, nm, ar, pl⟩⟩ = (m.put ⟨k, nm, ar, pl⟩).1 := by simp [M.act, ← HQ.out]
        rw [e1]
        exact D7.out.drop (fun x hx => .tail _ hx)
  · go_wp2
    go_region_held3 (fun w' => w'.cell? ⟨w.heap.size, 0, none⟩ = some (.int .i64 kd) ∧ w'.cell? ⟨w.heap.size, 1, none⟩ = some (.int .u8 k) ∧ w'.cell? ⟨w.heap.size, 2, none⟩ = some (.string nm) ∧ w'.cell? ⟨w.heap.size, 3, none⟩ = some (.int .i64 ar) ∧ w'.cell? ⟨w.heap.size, 4, none⟩ = some (.int .i64 pl)) (first | exact HS.out | go_keep | assumption) (first | ((go_at_call 20); (refine (Duo.turnP D0.out.drew (fun ok h => defer_any k nm ar pl _ h)).mono ?_); rintro e w4 ⟨rfl, d4⟩; have D4 := hide d4; have HS := hide (abox (d4.box (.head _))); clear d4) | ((go_at_call 51); (refine (ref_any k nm ar pl _).mono ?_); rintro e w5 ⟨rfl, hb5⟩; have D5 := hide (D4.out.below hb5); have HS := hide (abox (D5.out.box (.head _))); clear hb5) | ((go_at_call 50); (refine (Duo.turnR D5.out (fun ok h => rdefer_any k nm ar pl _ h)).mono ?_); rintro e w6 ⟨rfl, d6⟩; have D6 := hide d6; have HS := hide (abox (d6.box (.head _))); clear d6))
    go_wp2
    go_ret
    refine ⟨?_, ?_⟩
    · simp
    · have e1 : m.act ⟨kd, ⟨k, nm, ar, pl⟩⟩ = (m.defer ⟨k, nm, ar, pl⟩).1 := by simp [M.act, ← HQ.out]
      rw [e1]
      exact D6.out.drop (fun x hx => .tail _ hx)
  · go_wp2_with (first | ((go_at_call 21); (refine (Duo.turnP D0.out (fun ok h => recall_any _ h)).mono ?_); rintro e w4 ⟨rfl, d4⟩; have D4 := hide d4; clear d4) | ((go_at_call 52); (refine (Duo.turnR D4.out (fun ok h => rrecall_any _ h)).mono ?_); rintro e w6 ⟨rfl, d6⟩; have D6 := hide d6; clear d6))
    go_wp2
    go_ret
    refine ⟨?_, ?_⟩
    · simp
    · have e1 : m.act ⟨kd, ⟨k, nm, ar, pl⟩⟩ = m.recall.1 := by simp [M.act, ← HQ.out]
      rw [e1]
      exact D6.out.drop (fun x hx => .tail _ hx)
  · go_wp2_with fail
    go_at_call 23
    refine (Duo.turnP D0.out (fun ok h => next_any _ h)).mono ?_
    rintro e w4 ⟨rfl, d4⟩
    have D4 := hide d4
    clear d4
    obtain ⟨x, hx⟩ : ∃ x, x = m.next.2.1 := ⟨_, rfl⟩
    obtain ⟨y, hy⟩ : ∃ y, y = m.next.2.2 := ⟨_, rfl⟩
    have HX := hide hx
    have HY := hide hy
    rw [← hx, ← hy]
    clear hx hy
    obtain ⟨xk, xn, xa, xp⟩ := x
    unfold Ev.val
    have D5 := hide (D4.out.alloc (.cells #[.int .u8 xk, .string xn, .int .i64 xa, .int .i64 xp] 31 (0, 0)))
    go_wp2_with fail
    go_at_call 53
    refine (Duo.turnR D5.out (fun ok h => rnext_any _ h)).mono ?_
    rintro e w6 ⟨rfl, d6⟩
    rw [← HX.out, ← HY.out]
    unfold Ev.val
    have D7 := hide (d6.alloc (.cells #[.int .u8 xk, .string xn, .int .i64 xa, .int .i64 xp] 94 (0, 0)))
    have hbe := blk_alloc (d6.box (.head _)) (.cells #[.int .u8 xk, .string xn, .int .i64 xa, .int .i64 xp] 94 (0, 0))
    have hlte := blk_lt (d6.box (.head _))
    clear d6
    obtain ⟨⟨e0, e1, e2, e3⟩, ⟨f0, f1, f2, f3⟩⟩ := ebox2 hbe (D7.out.box (.head _))
    have hltf := blk_lt (D7.out.box (.head _))
    clear hbe
    go_wp2
    go_region_held3 (fun w' => (w'.cell? ⟨w4.heap.size, 0, none⟩ = some (.int .u8 xk) ∧ w'.cell? ⟨w4.heap.size, 1, none⟩ = some (.string xn) ∧ w'.cell? ⟨w4.heap.size, 2, none⟩ = some (.int .i64 xa) ∧ w'.cell? ⟨w4.heap.size, 3, none⟩ = some (.int .i64 xp)) ∧ (w'.cell? ⟨w6.heap.size, 0, none⟩ = some (.int .u8 xk) ∧ w'.cell? ⟨w6.heap.size, 1, none⟩ = some (.string xn) ∧ w'.cell? ⟨w6.heap.size, 2, none⟩ = some (.int .i64 xa) ∧ w'.cell? ⟨w6.heap.size, 3, none⟩ = some (.int .i64 xp))) (first | exact HS.out | go_keep | assumption) (first | ((go_at_call 51); (refine (ref_any xk xn xa xp _).mono ?_); rintro e w8 ⟨rfl, hb8⟩; have D8 := hide (D7.out.drew.below hb8); have HS := hide (ebox2 (D8.out.box (.tail _ (.head _))) (D8.out.box (.head _))); clear hb8))
    go_wp2
    go_ret
    refine ⟨?_, ?_⟩
    · simp
    · have e1 : m.act ⟨kd, ⟨k, nm, ar, pl⟩⟩ = m.next.1 := by simp [M.act, ← HQ.out]
      rw [e1]
      exact D8.out.drop (fun x hx => .tail _ (.tail _ (.tail _ hx)))
  · go_wp2_with fail
    go_at_call 23
    refine (Duo.turnP D0.out (fun ok h => next_any _ h)).mono ?_
    rintro e w4 ⟨rfl, d4⟩
    have D4 := hide d4
    clear d4
    obtain ⟨x, hx⟩ : ∃ x, x = m.next.2.1 := ⟨_, rfl⟩
    obtain ⟨y, hy⟩ : ∃ y, y = m.next.2.2 := ⟨_, rfl⟩
    have HX := hide hx
    have HY := hide hy
    rw [← hx, ← hy]
    clear hx hy
    obtain ⟨xk, xn, xa, xp⟩ := x
    unfold Ev.val
    have D5 := hide (D4.out.alloc (.cells #[.int .u8 xk, .string xn, .int .i64 xa, .int .i64 xp] 31 (0, 0)))
    go_wp2_with fail
    go_at_call 53
    refine (Duo.turnR D5.out (fun ok h => rnext_any _ h)).mono ?_
    rintro e w6 ⟨rfl, d6⟩
    rw [← HX.out, ← HY.out]
    unfold Ev.val
    have D7 := hide (d6.alloc (.cells #[.int .u8 xk, .string xn, .int .i64 xa, .int .i64 xp] 94 (0, 0)))
    have hbe := blk_alloc (d6.box (.head _)) (.cells #[.int .u8 xk, .string xn, .int .i64 xa, .int .i64 xp] 94 (0, 0))
    have hlte := blk_lt (d6.box (.head _))
    clear d6
    obtain ⟨⟨e0, e1, e2, e3⟩, ⟨f0, f1, f2, f3⟩⟩ := ebox2 hbe (D7.out.box (.head _))
    have hltf := blk_lt (D7.out.box (.head _))
    clear hbe
    go_wp2
    go_region_held3 (fun w' => (w'.cell? ⟨w4.heap.size, 0, none⟩ = some (.int .u8 xk) ∧ w'.cell? ⟨w4.heap.size, 1, none⟩ = some (.string xn) ∧ w'.cell? ⟨w4.heap.size, 2, none⟩ = some (.int .i64 xa) ∧ w'.cell? ⟨w4.heap.size, 3, none⟩ = some (.int .i64 xp)) ∧ (w'.cell? ⟨w6.heap.size, 0, none⟩ = some (.int .u8 xk) ∧ w'.cell? ⟨w6.heap.size, 1, none⟩ = some (.string xn) ∧ w'.cell? ⟨w6.heap.size, 2, none⟩ = some (.int .i64 xa) ∧ w'.cell? ⟨w6.heap.size, 3, none⟩ = some (.int .i64 xp))) (first | exact HS.out | go_keep | assumption) (first | ((go_at_call 51); (refine (ref_any xk xn xa xp _).mono ?_); rintro e w8 ⟨rfl, hb8⟩; have D8 := hide (D7.out.drew.below hb8); have HS := hide (ebox2 (D8.out.box (.tail _ (.head _))) (D8.out.box (.head _))); clear hb8))
    go_wp2
    go_ret
    refine ⟨?_, ?_⟩
    · simp
    · have e1 : m.act ⟨kd, ⟨k, nm, ar, pl⟩⟩ = m.next.1 := by simp [M.act, ← HQ.out]
      rw [e1]
      exact D8.out.drop (fun x hx => .tail _ (.tail _ (.tail _ hx)))
  · go_wp2
    go_region_held3 (fun w' => w'.cell? ⟨w.heap.size, 0, none⟩ = some (.int .i64 kd) ∧ w'.cell? ⟨w.heap.size, 1, none⟩ = some (.int .u8 k) ∧ w'.cell? ⟨w.heap.size, 2, none⟩ = some (.string nm) ∧ w'.cell? ⟨w.heap.size, 3, none⟩ = some (.int .i64 ar) ∧ w'.cell? ⟨w.heap.size, 4, none⟩ = some (.int .i64 pl)) (first | exact HS.out | go_keep | assumption) (first | ((go_at_call 26); (refine (Duo.turnP D0.out.drew (fun ok h => gone_all k pl _ h)).mono ?_); rintro e w4 ⟨rfl, d4⟩; have D4 := hide d4; have HS := hide (abox (d4.box (.head _))); clear d4) | ((go_at_call 54); (refine (Duo.turnR D4.out (fun ok h => rgone_all k pl _ h)).mono ?_); rintro e w6 ⟨rfl, d6⟩; have D6 := hide d6; have HS := hide (abox (d6.box (.head _))); clear d6))
    go_wp2
    go_ret
    refine ⟨?_, ?_⟩
    · simp
    · have e1 : m.act ⟨kd, ⟨k, nm, ar, pl⟩⟩ = (m.gone k pl).1 := by simp [M.act, ← HQ.out]
      rw [e1]
      exact D6.out.drop (fun x hx => .tail _ hx)
end
end Go.Proofs.Ytbobjecjopmnfaa
