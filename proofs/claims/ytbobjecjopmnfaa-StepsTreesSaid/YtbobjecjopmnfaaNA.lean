/- The walk of Of (the reference's 22). -/
import Derived.Test.YtbobjecjopmnfaaN3
namespace Go.Proofs.Ytbobjecjopmnfaa
open Go.RowKit
open Pt (szL sz encL enc roots encL_length roots_length enc_length shift RT)
/-- What Of tells comes back. -/
def GetOf (r : Pt × Bool) (w : World) (e : Ending) (w' : World) : Prop :=
  ∃ A c, e = .returned (.tuple #[.agg #[.int .u8 r.1.op, .int .i64 r.1.pl, .slice A r.1.kids.length c], .bool r.2]) ∧ Rds El.pt w' (fun b => w.heap.size ≤ b) (.slice A r.1.kids.length c) r.1.kids ∧ Below w.heap.size w w'
theorem Rds.poke3 {α : Type} {d : El α} {w : World} {ok : Nat → Prop} {v : Value} {xs : List α} {g : Nat} (h : Rds d w ok v xs) (hg : ∀ b, ok b → b ≠ g) (a b c : Value) : Rds d (((w.setCell ⟨g, 0, none⟩ a).setCell ⟨g, 1, none⟩ b).setCell ⟨g, 2, none⟩ c) ok v xs :=
  h.move fun x hx hlt => by
    obtain ⟨o, ho⟩ : ∃ o, w.heap[x]? = some o := ⟨_, Array.getElem?_eq_getElem hlt⟩
    have hne := hg x hx
    rw [ho]
    exact blk_far (p := ⟨g, 2, none⟩) (blk_far (p := ⟨g, 1, none⟩) (blk_far (p := ⟨g, 0, none⟩) ho hne _) hne _) hne _
set_option maxRecDepth 20000 in
set_option maxHeartbeats 8000000 in
theorem of_any {ok : Nat → Prop} {A : Option Addr} {n c : Nat} {l : List Nd} (w : World) (h : Rds El.nd w ok (.slice A n c) l) (hn : n = l.length) (hf : Fits22 l) :
    Calls Try.prog 34 #[.slice A n c] w (GetOf (ofT l) w) := by
  have hl1 := hf.1
  by_cases h0 : n = 0
  · have hof : ofT l = (Pt.nil, true) := by rw [ofT, if_pos (by omega)]
    rw [hof]
    subst h0
    clear h hof hn hl1
    go_enter Try.func34, Try.ntmps34
    go_wp2
    refine bodyPost_ret (v := .tuple #[.agg #[.int .u8 0, .int .i64 0, .slice none 0 0], .bool true]) (by simp [results, Try.results34, go_sem]) rfl ?_
    exact ⟨none, 0, rfl, Rds.nil, by repeat (first | exact Below.refl _ _ | refine Below.setCell ?_ (by simp) _ | refine Below.alloc ?_ (by simp) _)⟩
  · obtain ⟨r, hr⟩ : ∃ r, r = partM l.length l (l.length - 1) := ⟨_, rfl⟩
    have hof : ofT l = (r.1, r.2.2 && decide (r.2.1 = 0)) := by rw [hr, ofT, if_neg (by omega)]
    rw [hof]
    have hp := fun (W : World) (hB : Below w.heap.size w W) => part_any h hn hf l.length ((n : Int) - 1) (by omega) (by omega) (by omega) W hB
    have e1 : ((n : Int) - 1) = (l.length : Int) - 1 := by omega
    rw [e1, ← hr, ← e1] at hp
    have HP := hide hp
    have fw : IntKind.i64.wrap ((n : Int) - 1) = n - 1 := by rw [IntKind.wrap_i64]; omega
    have n0 : ((n : Int) == 0) = false := by rw [beq_eq_false_iff_ne]; omega
    have bx : (w.alloc (.cells #[.int .u8 0, .int .i64 0, .slice none 0 0] 65 (0, 0))).heap[w.heap.size]? = some (.cells #[.int .u8 0, .int .i64 0, .slice none 0 0] 65 (0, 0)) := blk_new rfl
    have BX := hide bx
    have hn1 : n ≤ 1000 := by omega
    clear h hn hf hl1 hr hof hp e1 bx
    obtain ⟨rp, rfr, rok⟩ := r
    have hcase : (rok = false) ∨ (rok = true ∧ rfr = 0) ∨ (rok = true ∧ rfr ≠ 0) := by
      cases rok
      · exact .inl rfl
      · by_cases h : rfr = 0
        · exact .inr (.inl ⟨rfl, h⟩)
        · exact .inr (.inr ⟨rfl, h⟩)
    rcases hcase with rfl | ⟨rfl, rfl⟩ | ⟨rfl, hz⟩
    rotate_left 2
    · have z0 : (rfr == 0) = false := by rw [beq_eq_false_iff_ne]; exact hz
      have z1 : decide (rfr = 0) = false := decide_eq_false hz
      simp only [z1, Bool.and_false]
      clear z1
      go_enter Try.func34, Try.ntmps34
      go_wp2_with (go_at_call 64; (try rw [fw]); refine (HP.out _ (by repeat (first | exact Below.refl _ _ | refine Below.alloc ?_ (by simp) _))).mono ?_; rintro e w2 ⟨PA, pc, rfl, hp2, hb2⟩; have b2 := box_same BX.out hb2; have s0 := blk_cell b2 0; have s1 := blk_cell b2 1; have s2 := blk_cell b2 2; have sf0 := blk_frozen b2 0; have sf1 := blk_frozen b2 1; have sf2 := blk_frozen b2 2; have sl := blk_lt b2; simp at s0 s1 s2; have HP2 := hide hp2; have HB2 := hide (below_then ((Below.refl w.heap.size w).alloc (Nat.le_refl _) _) hb2); clear hp2 hb2 b2)
      refine bodyPost_ret (v := .tuple #[.agg #[.int .u8 rp.op, .int .i64 rp.pl, .slice PA rp.kids.length pc], .bool false]) (by simp [results, Try.results34, go_sem, s0, s1, s2, sl]) rfl ?_
      refine ⟨PA, pc, rfl, ((HP2.out.poke3 (g := w.heap.size) (fun b hb => by simp at hb; omega) _ _ _).below ((Below.refl _ _).alloc (Nat.le_refl _) _)).mono (fun b hb _ => by simp at hb; omega), ?_⟩
      repeat (first | exact HB2.out | refine Below.setCell ?_ (by simp) _ | refine Below.alloc ?_ (by have := HB2.out.size; simp; omega) _)
    · simp only [Bool.false_and]
      go_enter Try.func34, Try.ntmps34
      go_wp2_with (go_at_call 64; (try rw [fw]); refine (HP.out _ (by repeat (first | exact Below.refl _ _ | refine Below.alloc ?_ (by simp) _))).mono ?_; rintro e w2 ⟨PA, pc, rfl, hp2, hb2⟩; have b2 := box_same BX.out hb2; have s0 := blk_cell b2 0; have s1 := blk_cell b2 1; have s2 := blk_cell b2 2; have sf0 := blk_frozen b2 0; have sf1 := blk_frozen b2 1; have sf2 := blk_frozen b2 2; have sl := blk_lt b2; simp at s0 s1 s2; have HP2 := hide hp2; have HB2 := hide (below_then ((Below.refl w.heap.size w).alloc (Nat.le_refl _) _) hb2); clear hp2 hb2 b2)
      refine bodyPost_ret (v := .tuple #[.agg #[.int .u8 rp.op, .int .i64 rp.pl, .slice PA rp.kids.length pc], .bool false]) (by simp [results, Try.results34, go_sem, s0, s1, s2, sl]) rfl ?_
      refine ⟨PA, pc, rfl, ((HP2.out.poke3 (g := w.heap.size) (fun b hb => by simp at hb; omega) _ _ _).below ((Below.refl _ _).alloc (Nat.le_refl _) _)).mono (fun b hb _ => by simp at hb; omega), ?_⟩
      repeat (first | exact HB2.out | refine Below.setCell ?_ (by simp) _ | refine Below.alloc ?_ (by have := HB2.out.size; simp; omega) _)
    · simp only [decide_true, Bool.and_self]
      go_enter Try.func34, Try.ntmps34
      go_wp2_with (go_at_call 64; (try rw [fw]); refine (HP.out _ (by repeat (first | exact Below.refl _ _ | refine Below.alloc ?_ (by simp) _))).mono ?_; rintro e w2 ⟨PA, pc, rfl, hp2, hb2⟩; have b2 := box_same BX.out hb2; have s0 := blk_cell b2 0; have s1 := blk_cell b2 1; have s2 := blk_cell b2 2; have sf0 := blk_frozen b2 0; have sf1 := blk_frozen b2 1; have sf2 := blk_frozen b2 2; have sl := blk_lt b2; simp at s0 s1 s2; have HP2 := hide hp2; have HB2 := hide (below_then ((Below.refl w.heap.size w).alloc (Nat.le_refl _) _) hb2); clear hp2 hb2 b2)
      refine bodyPost_ret (v := .tuple #[.agg #[.int .u8 rp.op, .int .i64 rp.pl, .slice PA rp.kids.length pc], .bool true]) (by simp [results, Try.results34, go_sem, s0, s1, s2, sl]) rfl ?_
      refine ⟨PA, pc, rfl, ((HP2.out.poke3 (g := w.heap.size) (fun b hb => by simp at hb; omega) _ _ _).below ((Below.refl _ _).alloc (Nat.le_refl _) _)).mono (fun b hb _ => by simp at hb; omega), ?_⟩
      repeat (first | exact HB2.out | refine Below.setCell ?_ (by simp) _ | refine Below.alloc ?_ (by have := HB2.out.size; simp; omega) _)
end Go.Proofs.Ytbobjecjopmnfaa
