/- The walk of works (the statements' 22). -/
import Derived.Test.YtbobjecjopmnfaaKD
namespace Go.Proofs.Ytbobjecjopmnfaa
open Go.RowKit
open Pt (szL sz encL enc roots encL_length roots_length enc_length shift RT)
def fitsKb (l : List Nd) : Bool := decide (l.length ≤ 1000) && l.all fun n => decide (n.kids.length ≤ 1000) && n.kids.all fun k => decide (0 ≤ k) && decide (k ≤ 1000)
theorem fitsK_of {l : List Nd} (h : fitsKb l = true) : FitsK l := by
  simp only [fitsKb, Bool.and_eq_true, decide_eq_true_eq, List.all_eq_true] at h
  exact ⟨h.1, fun n hn => ⟨(h.2 n hn).1, (h.2 n hn).2⟩⟩
/-- A tree that is read comes back. -/
def GetT (r : List Nd) (k : Nat) (w : World) (e : Ending) (w' : World) : Prop := ∃ A c, e = .returned (.agg #[.slice A k c]) ∧ Rds El.nd w' (fun _ => True) (.slice A k c) r ∧ Below w.heap.size w w'
/-- A row of integers that is read comes back. -/
def GetI (r : List Int) (k : Nat) (w : World) (e : Ending) (w' : World) : Prop := ∃ A c, e = .returned (.slice A k c) ∧ Rds El.int w' (fun _ => True) (.slice A k c) r ∧ Below w.heap.size w w'
theorem MadeT.get {l r : List Nd} {k : Nat} {w w' : World} {e : Ending} (hr : l = r) (hk : k = r.length) (h : MadeT l w e w') : GetT r k w e w' := by
  subst hr; subst hk
  obtain ⟨A, c, rfl, h1, h2⟩ := h
  exact ⟨A, c, rfl, h1.rds.to_nd.mono (fun _ _ _ => trivial), h2⟩
theorem MadeI.get {l r : List Int} {k : Nat} {w w' : World} {e : Ending} (hr : l = r) (hk : k = r.length) (h : MadeI l w e w') : GetI r k w e w' := by
  subst hr; subst hk
  obtain ⟨A, c, rfl, h1, -, h2⟩ := h
  exact ⟨A, c, rfl, Rds.of_ints (h1.rd (fun _ _ => trivial)), h2⟩
theorem leaf_now (op pl : Int) (w : World) (h : leafB op = true) : Calls Try.prog 48 #[.int .u8 op, .int .i64 pl] w (GetT [⟨op, pl, []⟩] 1 w) := (leaf_yes op pl w h).mono fun _ _ h => h.get rfl rfl
theorem inorder_now {ok : Nat → Prop} {A : Option Addr} {n c k : Nat} (rows : List (List Nd)) (r : List Nd) (hr : allR 1 rows = r) (hk : k = r.length) (hf : rows.all fitsKb = true) (hn : n = rows.length) (hl : n ≤ 1000) (w : World) (h : Rds (El.row El.nd) w ok (.slice A n c) rows) : Calls Try.prog 46 #[.slice A n c] w (GetT r k w) :=
  (inorder_any rows hn hl w h (fun x hx => (fitsK_of (List.all_eq_true.1 hf x hx)).fits) (fun _ x hx => fitsK_of (List.all_eq_true.1 hf x hx))).mono fun _ _ h => h.get hr hk
theorem beside_now {ok : Nat → Prop} {A : Option Addr} {n c k : Nat} (rows : List (List Nd)) (r : List Nd) (hr : allR 2 rows = r) (hk : k = r.length) (hf : rows.all fitsKb = true) (hn : n = rows.length) (hl : n ≤ 1000) (w : World) (h : Rds (El.row El.nd) w ok (.slice A n c) rows) : Calls Try.prog 47 #[.slice A n c] w (GetT r k w) :=
  (beside_any rows hn hl w h (fun x hx => (fitsK_of (List.all_eq_true.1 hf x hx)).fits) (fun _ x hx => fitsK_of (List.all_eq_true.1 hf x hx))).mono fun _ _ h => h.get hr hk
theorem ready_now {ok : Nat → Prop} {A : Option Addr} {n c k : Nat} (l : List Nd) (p : Pt) (rd : List Int) (hn : n = l.length) (hp : RT p) (he : l = enc 0 p) (hr : readyT 0 p = rd) (hk : k = rd.length) (hf : fitsKb l = true) (w : World) (h : Rds El.nd w ok (.slice A n c) l) : Calls Try.prog 42 #[.agg #[.slice A n c]] w (GetI rd k w) := by
  subst hn
  exact (ready_right l p w h (fitsK_of hf).fits hp he).mono fun _ _ h => h.get hr hk
theorem same_now {ok ok' : Nat → Prop} {A B : Option Addr} {n m ca cb : Nat} (x : List Int) (hn : n = x.length) (hm : m = x.length) (hl : n ≤ 1000) (w : World) (h : Rds El.int w ok (.slice A n ca) x) (h' : Rds El.int w ok' (.slice B m cb) x) :
    Calls Try.prog 44 #[.slice A n ca, .slice B m cb] w fun e w' => e = .returned (.bool true) ∧ Below w.heap.size w w' := by
  subst hn; subst hm
  refine (sameints_any x x (by omega) w h h').mono ?_
  rintro e w' ⟨rfl, hd⟩
  exact ⟨by simp, drewn_below hd⟩
theorem rd_blockN {w : World} {ok : Nat → Prop} {g t n : Nat} {cs : List Value} {sz : Nat} (h : w.heap[g]? = some (.cells cs.toArray t (0, 0))) (hs : cs.length = n * sz) (hg : ok g) : Rd w ok sz (.slice (some ⟨g, 0, none⟩) n n) n cs := by
  refine ⟨hs, _, _, rfl, Nat.le_refl _, fun _ => ⟨_, rfl, hg, fun j u hu => ?_⟩⟩
  rw [add_at, Nat.zero_add, blk_cell h j]
  simpa using hu
theorem rows2 {w : World} {ok ok' : Nat → Prop} {g n m a b : Nat} {A B : Option Addr} {x y : List Nd} (h : w.heap[g]? = some (.cells #[.slice A n a, .slice B m b] 59 (0, 0))) (hn : n = x.length) (hm : m = y.length) (h0 : Rds El.nd w ok (.slice A n a) x) (h1 : Rds El.nd w ok' (.slice B m b) y) :
    Rds (El.row El.nd) w (fun _ => True) (.slice (some ⟨g, 0, none⟩) 2 2) [x, y] := by
  subst hn; subst hm
  exact ⟨[[.slice A x.length a], [.slice B y.length b]], rd_blockN (n := 2) (sz := 1) (cs := [.slice A x.length a, .slice B y.length b]) h rfl trivial, .cons ⟨A, a, rfl, h0.mono (fun _ _ _ => trivial)⟩ (.cons ⟨B, b, rfl, h1.mono (fun _ _ _ => trivial)⟩ .nil)⟩
theorem rows3 {w : World} {ok ok' ok2 : Nat → Prop} {g n m k a b c : Nat} {A B C : Option Addr} {x y z : List Nd} (h : w.heap[g]? = some (.cells #[.slice A n a, .slice B m b, .slice C k c] 59 (0, 0))) (hn : n = x.length) (hm : m = y.length) (hk : k = z.length) (h0 : Rds El.nd w ok (.slice A n a) x) (h1 : Rds El.nd w ok' (.slice B m b) y) (h2 : Rds El.nd w ok2 (.slice C k c) z) :
    Rds (El.row El.nd) w (fun _ => True) (.slice (some ⟨g, 0, none⟩) 3 3) [x, y, z] := by
  subst hn; subst hm; subst hk
  exact ⟨[[.slice A x.length a], [.slice B y.length b], [.slice C z.length c]], rd_blockN (n := 3) (sz := 1) (cs := [.slice A x.length a, .slice B y.length b, .slice C z.length c]) h rfl trivial, .cons ⟨A, a, rfl, h0.mono (fun _ _ _ => trivial)⟩ (.cons ⟨B, b, rfl, h1.mono (fun _ _ _ => trivial)⟩ (.cons ⟨C, c, rfl, h2.mono (fun _ _ _ => trivial)⟩ .nil))⟩
theorem ints_at {w : World} {g n : Nat} {x : List Int} (h : w.heap[g]? = some (.cells (ints x).toArray 3 (0, 0))) (hn : n = x.length) : Rds El.int w (fun _ => True) (.slice (some ⟨g, 0, none⟩) n n) x := by
  subst hn
  exact Rds.of_ints (rd_blockN (n := x.length) (sz := 1) h (by rw [ints_length, Nat.mul_one]) trivial)
theorem add_zero_ (a : Addr) : a.add 0 = a := by simp [Addr.add]
def wu : Pt := .mk 1 0 [.mk 2 0 [.mk 3 3 [], .mk 3 6 []], .mk 3 1 []]
def wv : Pt := .mk 1 0 [.mk 3 6 [], .mk 3 1 []]
def lt_ : List Nd := [⟨3, 3, []⟩, ⟨4, 1, []⟩, ⟨5, 4, []⟩, ⟨1, 0, [0, 1, 2]⟩]
def lu_ : List Nd := [⟨3, 3, []⟩, ⟨3, 6, []⟩, ⟨2, 0, [0, 1]⟩, ⟨3, 1, []⟩, ⟨1, 0, [2, 3]⟩]
def lv_ : List Nd := [⟨3, 6, []⟩, ⟨3, 1, []⟩, ⟨1, 0, [0, 1]⟩]
theorem wu_RT : RT wu := by simp [wu, RT, Pt.RTL, Pt.op]
theorem wv_RT : RT wv := by simp [wv, RT, Pt.RTL, Pt.op]
theorem take_now {ok : Nat → Prop} {A : Option Addr} {c : Nat} (w : World) (h : Rds El.nd w ok (.slice A 5 c) lu_) : Calls Try.prog 38 #[.agg #[.slice A 5 c], .int .i64 0, .agg #[.slice none 0 0]] w (GetT lv_ 3 w) := by
  have h1 : Rds El.nd w (fun _ => True) (.slice none (encO Pt.nil).length 0) (encO Pt.nil) := Rds.nil
  exact (take_real (bc := 0) lu_ wu Pt.nil 0 w h h1 wu_RT (by kernel_rfl) (fitsK_of (by kernel_rfl)).fits (by decide) (.inl rfl) (by decide) (by decide)).mono fun _ _ h => h.get (by kernel_rfl) rfl
set_option maxRecDepth 20000 in
set_option maxHeartbeats 8000000 in
theorem works22_any (w : World) : Calls Try.prog 32 #[] w (SaysB true w) := by
  go_enter Try.func32, Try.ntmps32
  go_wp2_with fail
  go_at_call 48
  refine (leaf_now 3 3 _ rfl).mono ?_
  rintro e w1 ⟨A1, c1, rfl, h1, hb⟩
  have hB : Below w.heap.size w w1 := below_then (by repeat (first | exact Below.refl _ _ | refine Below.drew ?_ | refine below_drewN ?_ _ | refine Below.alloc ?_ (by simp) _)) hb
  have F1 := hide h1; clear h1
  have HB := hide hB
  clear hB hb
  go_wp2_with fail
  go_at_call 48
  refine (leaf_now 4 1 _ rfl).mono ?_
  rintro e w2 ⟨A2, c2, rfl, h2, hb⟩
  have hB : Below w1.heap.size w1 w2 := below_then (by repeat (first | exact Below.refl _ _ | refine Below.drew ?_ | refine below_drewN ?_ _ | refine Below.alloc ?_ (by simp) _)) hb
  have F1' := hide (F1.out.below hB); clear F1; have F1 := F1'; clear F1'
  have HB' := hide (below_then HB.out hB); clear HB; have HB := HB'; clear HB'
  have F2 := hide h2; clear h2
  clear hB hb
  go_wp2_with fail
  go_at_call 48
  refine (leaf_now 5 4 _ rfl).mono ?_
  rintro e w3 ⟨A3, c3, rfl, h3, hb⟩
  have hB : Below w2.heap.size w2 w3 := below_then (by repeat (first | exact Below.refl _ _ | refine Below.drew ?_ | refine below_drewN ?_ _ | refine Below.alloc ?_ (by simp) _)) hb
  have F1' := hide (F1.out.below hB); clear F1; have F1 := F1'; clear F1'
  have HB' := hide (below_then HB.out hB); clear HB; have HB := HB'; clear HB'
  have F2' := hide (F2.out.below hB); clear F2; have F2 := F2'; clear F2'
  have F3 := hide h3; clear h3
  clear hB hb
  go_wp2_with fail
  go_at_call 46
  refine (inorder_now [[⟨4, 1, []⟩], [⟨5, 4, []⟩]] [⟨4, 1, []⟩, ⟨5, 4, []⟩, ⟨1, 0, [0, 1]⟩] (k := 3) (by kernel_rfl) rfl (by kernel_rfl) rfl (by decide) _ (rows2 (heap_alloc_new _ _) rfl rfl (F2.out.below (by repeat (first | exact Below.refl _ _ | refine Below.drew ?_ | refine below_drewN ?_ _ | refine Below.alloc ?_ (by simp) _))) (F3.out.below (by repeat (first | exact Below.refl _ _ | refine Below.drew ?_ | refine below_drewN ?_ _ | refine Below.alloc ?_ (by simp) _))))).mono ?_
  rintro e w4 ⟨A4, c4, rfl, h4, hb⟩
  have hB : Below w3.heap.size w3 w4 := below_then (by repeat (first | exact Below.refl _ _ | refine Below.drew ?_ | refine below_drewN ?_ _ | refine Below.alloc ?_ (by simp) _)) hb
  have F1' := hide (F1.out.below hB); clear F1; have F1 := F1'; clear F1'
  have HB' := hide (below_then HB.out hB); clear HB; have HB := HB'; clear HB'
  have F2' := hide (F2.out.below hB); clear F2; have F2 := F2'; clear F2'
  have F3' := hide (F3.out.below hB); clear F3; have F3 := F3'; clear F3'
  have F4 := hide h4; clear h4
  clear hB hb
  clear F2 F3
  go_wp2_with fail
  go_at_call 46
  refine (inorder_now [[⟨3, 3, []⟩], [], [⟨4, 1, []⟩, ⟨5, 4, []⟩, ⟨1, 0, [0, 1]⟩]] lt_ (k := 4) (by kernel_rfl) rfl (by kernel_rfl) rfl (by decide) _ (rows3 (heap_alloc_new _ _) rfl rfl rfl (F1.out.below (by repeat (first | exact Below.refl _ _ | refine Below.drew ?_ | refine below_drewN ?_ _ | refine Below.alloc ?_ (by simp) _))) (Rds.nil (ok := fun _ => True)) (F4.out.below (by repeat (first | exact Below.refl _ _ | refine Below.drew ?_ | refine below_drewN ?_ _ | refine Below.alloc ?_ (by simp) _))))).mono ?_
  rintro e w5 ⟨A5, c5, rfl, h5, hb⟩
  have hB : Below w4.heap.size w4 w5 := below_then (by repeat (first | exact Below.refl _ _ | refine Below.drew ?_ | refine below_drewN ?_ _ | refine Below.alloc ?_ (by simp) _)) hb
  have F1' := hide (F1.out.below hB); clear F1; have F1 := F1'; clear F1'
  have HB' := hide (below_then HB.out hB); clear HB; have HB := HB'; clear HB'
  have F4' := hide (F4.out.below hB); clear F4; have F4 := F4'; clear F4'
  have FT := hide h5; clear h5
  clear hB hb
  clear F1 F4
  go_wp2_with fail
  go_at_call 48
  refine (leaf_now 3 3 _ rfl).mono ?_
  rintro e w6 ⟨A6, c6, rfl, h6, hb⟩
  have hB : Below w5.heap.size w5 w6 := below_then (by repeat (first | exact Below.refl _ _ | refine Below.drew ?_ | refine below_drewN ?_ _ | refine Below.alloc ?_ (by simp) _)) hb
  have HB' := hide (below_then HB.out hB); clear HB; have HB := HB'; clear HB'
  have FT' := hide (FT.out.below hB); clear FT; have FT := FT'; clear FT'
  have XT := hide (box_same (g := w5.heap.size) (o := .cells #[.slice A5 4 c5] 59 (0, 0)) (by repeat (first | exact heap_alloc_new _ _ | refine blk_alloc ?_ _)) hb)
  have cXT := blk_cell XT.out 0; have lXT := blk_lt XT.out; simp at cXT
  have F6 := hide h6; clear h6
  clear hB hb
  go_wp2_with fail
  go_at_call 48
  refine (leaf_now 3 6 _ rfl).mono ?_
  rintro e w7 ⟨A7, c7, rfl, h7, hb⟩
  have hB : Below w6.heap.size w6 w7 := below_then (by repeat (first | exact Below.refl _ _ | refine Below.drew ?_ | refine below_drewN ?_ _ | refine Below.alloc ?_ (by simp) _)) hb
  have HB' := hide (below_then HB.out hB); clear HB; have HB := HB'; clear HB'
  have FT' := hide (FT.out.below hB); clear FT; have FT := FT'; clear FT'
  clear cXT lXT; have XT' := hide (box_same XT.out hB); clear XT; have XT := XT'; clear XT'
  have cXT := blk_cell XT.out 0; have lXT := blk_lt XT.out; simp at cXT
  have F6' := hide (F6.out.below hB); clear F6; have F6 := F6'; clear F6'
  have F7 := hide h7; clear h7
  clear hB hb
  go_wp2_with fail
  go_at_call 47
  refine (beside_now [[⟨3, 3, []⟩], [⟨3, 6, []⟩]] [⟨3, 3, []⟩, ⟨3, 6, []⟩, ⟨2, 0, [0, 1]⟩] (k := 3) (by kernel_rfl) rfl (by kernel_rfl) rfl (by decide) _ (rows2 (heap_alloc_new _ _) rfl rfl (F6.out.below (by repeat (first | exact Below.refl _ _ | refine Below.drew ?_ | refine below_drewN ?_ _ | refine Below.alloc ?_ (by simp) _))) (F7.out.below (by repeat (first | exact Below.refl _ _ | refine Below.drew ?_ | refine below_drewN ?_ _ | refine Below.alloc ?_ (by simp) _))))).mono ?_
  rintro e w8 ⟨A8, c8, rfl, h8, hb⟩
  have hB : Below w7.heap.size w7 w8 := below_then (by repeat (first | exact Below.refl _ _ | refine Below.drew ?_ | refine below_drewN ?_ _ | refine Below.alloc ?_ (by simp) _)) hb
  have HB' := hide (below_then HB.out hB); clear HB; have HB := HB'; clear HB'
  have FT' := hide (FT.out.below hB); clear FT; have FT := FT'; clear FT'
  clear cXT lXT; have XT' := hide (box_same XT.out hB); clear XT; have XT := XT'; clear XT'
  have cXT := blk_cell XT.out 0; have lXT := blk_lt XT.out; simp at cXT
  have F6' := hide (F6.out.below hB); clear F6; have F6 := F6'; clear F6'
  have F7' := hide (F7.out.below hB); clear F7; have F7 := F7'; clear F7'
  have F8 := hide h8; clear h8
  clear hB hb
  clear F6 F7
  go_wp2_with fail
  go_at_call 48
  refine (leaf_now 3 1 _ rfl).mono ?_
  rintro e w9 ⟨A9, c9, rfl, h9, hb⟩
  have hB : Below w8.heap.size w8 w9 := below_then (by repeat (first | exact Below.refl _ _ | refine Below.drew ?_ | refine below_drewN ?_ _ | refine Below.alloc ?_ (by simp) _)) hb
  have HB' := hide (below_then HB.out hB); clear HB; have HB := HB'; clear HB'
  have FT' := hide (FT.out.below hB); clear FT; have FT := FT'; clear FT'
  clear cXT lXT; have XT' := hide (box_same XT.out hB); clear XT; have XT := XT'; clear XT'
  have cXT := blk_cell XT.out 0; have lXT := blk_lt XT.out; simp at cXT
  have F8' := hide (F8.out.below hB); clear F8; have F8 := F8'; clear F8'
  have F9 := hide h9; clear h9
  clear hB hb
  go_wp2_with fail
  go_at_call 46
  refine (inorder_now [[⟨3, 3, []⟩, ⟨3, 6, []⟩, ⟨2, 0, [0, 1]⟩], [⟨3, 1, []⟩]] lu_ (k := 5) (by kernel_rfl) rfl (by kernel_rfl) rfl (by decide) _ (rows2 (heap_alloc_new _ _) rfl rfl (F8.out.below (by repeat (first | exact Below.refl _ _ | refine Below.drew ?_ | refine below_drewN ?_ _ | refine Below.alloc ?_ (by simp) _))) (F9.out.below (by repeat (first | exact Below.refl _ _ | refine Below.drew ?_ | refine below_drewN ?_ _ | refine Below.alloc ?_ (by simp) _))))).mono ?_
  rintro e w10 ⟨A10, c10, rfl, h10, hb⟩
  have hB : Below w9.heap.size w9 w10 := below_then (by repeat (first | exact Below.refl _ _ | refine Below.drew ?_ | refine below_drewN ?_ _ | refine Below.alloc ?_ (by simp) _)) hb
  have HB' := hide (below_then HB.out hB); clear HB; have HB := HB'; clear HB'
  have FT' := hide (FT.out.below hB); clear FT; have FT := FT'; clear FT'
  clear cXT lXT; have XT' := hide (box_same XT.out hB); clear XT; have XT := XT'; clear XT'
  have cXT := blk_cell XT.out 0; have lXT := blk_lt XT.out; simp at cXT
  have F8' := hide (F8.out.below hB); clear F8; have F8 := F8'; clear F8'
  have F9' := hide (F9.out.below hB); clear F9; have F9 := F9'; clear F9'
  have FU := hide h10; clear h10
  clear hB hb
  clear F8 F9
  go_wp2_with fail
  go_at_call 38
  refine (take_now _ (FU.out.below (by repeat (first | exact Below.refl _ _ | refine Below.drew ?_ | refine below_drewN ?_ _ | refine Below.alloc ?_ (by simp) _)))).mono ?_
  rintro e w11 ⟨A11, c11, rfl, h11, hb⟩
  have hB : Below w10.heap.size w10 w11 := below_then (by repeat (first | exact Below.refl _ _ | refine Below.drew ?_ | refine below_drewN ?_ _ | refine Below.alloc ?_ (by simp) _)) hb
  have HB' := hide (below_then HB.out hB); clear HB; have HB := HB'; clear HB'
  have FT' := hide (FT.out.below hB); clear FT; have FT := FT'; clear FT'
  clear cXT lXT; have XT' := hide (box_same XT.out hB); clear XT; have XT := XT'; clear XT'
  have cXT := blk_cell XT.out 0; have lXT := blk_lt XT.out; simp at cXT
  have FU' := hide (FU.out.below hB); clear FU; have FU := FU'; clear FU'
  have XU := hide (box_same (g := w10.heap.size) (o := .cells #[.slice A10 5 c10] 59 (0, 0)) (by repeat (first | exact heap_alloc_new _ _ | refine blk_alloc ?_ _)) hb)
  have cXU := blk_cell XU.out 0; have lXU := blk_lt XU.out; simp at cXU
  have FV := hide h11; clear h11
  clear hB hb
  obtain ⟨tad, TK, tkc, hTA, t0, t1, t2, htk⟩ := FT.out.nd_at (w' := w11.alloc (.cells #[.slice A11 3 c11] 59)) ((Below.refl _ _).alloc (Nat.le_refl _) _) (i := 3) rfl
  simp only [Nat.reduceMul] at t0 t1 t2
  have htk3 : Rds El.int w11 (fun _ => True) (.slice TK 3 tkc) [0, 1, 2] := htk
  have t2' : (w11.alloc (.cells #[.slice A11 3 c11] 59)).cell? ⟨(tad.add 9).block, (tad.add 9).off + 2, none⟩ = some (.slice TK 3 tkc) := t2
  have FK := hide htk3
  clear htk htk3 t2
  have ead : tad.add 9 = ⟨tad.block, tad.off + 9, none⟩ := by simp [Addr.add]
  rw [ead] at t0 t1 t2'
  simp only at t1 t2'
  have t2b : (w11.alloc (.cells #[.slice A11 3 c11] 59)).cell? ⟨tad.block, tad.off + 11, none⟩ = some (.slice TK 3 tkc) := t2'
  clear ead
  subst hTA
  go_wp2_with fail
  go_at_call 44
  refine (same_now [0, 1, 2] rfl rfl (by decide) _ (FK.out.below (by repeat (first | exact Below.refl _ _ | refine Below.drew ?_ | refine below_drewN ?_ _ | refine Below.alloc ?_ (by simp) _))) (ints_at (x := [0, 1, 2]) (show (World.alloc _ _).heap[_]? = some (.cells #[.int .i64 0, .int .i64 1, .int .i64 2] 3 (0, 0)) from blk_new (by simp)) rfl)).mono ?_
  rintro e w12 ⟨rfl, hb⟩
  have hB : Below w11.heap.size w11 w12 := below_then (by repeat (first | exact Below.refl _ _ | refine Below.drew ?_ | refine below_drewN ?_ _ | refine Below.alloc ?_ (by simp) _)) hb
  have HB' := hide (below_then HB.out hB); clear HB; have HB := HB'; clear HB'
  have FT' := hide (FT.out.below hB); clear FT; have FT := FT'; clear FT'
  clear cXT lXT; have XT' := hide (box_same XT.out hB); clear XT; have XT := XT'; clear XT'
  have cXT := blk_cell XT.out 0; have lXT := blk_lt XT.out; simp at cXT
  have FU' := hide (FU.out.below hB); clear FU; have FU := FU'; clear FU'
  clear cXU lXU; have XU' := hide (box_same XU.out hB); clear XU; have XU := XU'; clear XU'
  have cXU := blk_cell XU.out 0; have lXU := blk_lt XU.out; simp at cXU
  have FV' := hide (FV.out.below hB); clear FV; have FV := FV'; clear FV'
  have FK' := hide (FK.out.below hB); clear FK; have FK := FK'; clear FK'
  have XV := hide (box_same (g := w11.heap.size) (o := .cells #[.slice A11 3 c11] 59 (0, 0)) (by repeat (first | exact heap_alloc_new _ _ | refine blk_alloc ?_ _)) hb)
  have cXV := blk_cell XV.out 0; have lXV := blk_lt XV.out; simp at cXV
  clear hB hb
  clear t0 t1 t2' t2b
  go_wp2_with fail
  go_at_call 42
  refine (ready_now lu_ wu [0, 1] (k := 2) rfl wu_RT (by kernel_rfl) (by kernel_rfl) rfl (by kernel_rfl) _ (FU.out.below (by repeat (first | exact Below.refl _ _ | refine Below.drew ?_ | refine below_drewN ?_ _ | refine Below.alloc ?_ (by simp) _)))).mono ?_
  rintro e w13 ⟨A13, c13, rfl, h13, hb⟩
  have hB : Below w12.heap.size w12 w13 := below_then (by repeat (first | exact Below.refl _ _ | refine Below.drew ?_ | refine below_drewN ?_ _ | refine Below.alloc ?_ (by simp) _)) hb
  have HB' := hide (below_then HB.out hB); clear HB; have HB := HB'; clear HB'
  have FT' := hide (FT.out.below hB); clear FT; have FT := FT'; clear FT'
  clear cXT lXT; have XT' := hide (box_same XT.out hB); clear XT; have XT := XT'; clear XT'
  have cXT := blk_cell XT.out 0; have lXT := blk_lt XT.out; simp at cXT
  have FU' := hide (FU.out.below hB); clear FU; have FU := FU'; clear FU'
  clear cXU lXU; have XU' := hide (box_same XU.out hB); clear XU; have XU := XU'; clear XU'
  have cXU := blk_cell XU.out 0; have lXU := blk_lt XU.out; simp at cXU
  have FV' := hide (FV.out.below hB); clear FV; have FV := FV'; clear FV'
  have FK' := hide (FK.out.below hB); clear FK; have FK := FK'; clear FK'
  clear cXV lXV; have XV' := hide (box_same XV.out hB); clear XV; have XV := XV'; clear XV'
  have cXV := blk_cell XV.out 0; have lXV := blk_lt XV.out; simp at cXV
  have FI := hide h13; clear h13
  clear hB hb
  go_wp2_with fail
  go_at_call 44
  refine (same_now [0, 1] rfl rfl (by decide) _ (FI.out.below (by repeat (first | exact Below.refl _ _ | refine Below.drew ?_ | refine below_drewN ?_ _ | refine Below.alloc ?_ (by simp) _))) (ints_at (x := [0, 1]) (show (World.alloc _ _).heap[_]? = some (.cells #[.int .i64 0, .int .i64 1] 3 (0, 0)) from blk_new (by simp)) rfl)).mono ?_
  rintro e w14 ⟨rfl, hb⟩
  have hB : Below w13.heap.size w13 w14 := below_then (by repeat (first | exact Below.refl _ _ | refine Below.drew ?_ | refine below_drewN ?_ _ | refine Below.alloc ?_ (by simp) _)) hb
  have HB' := hide (below_then HB.out hB); clear HB; have HB := HB'; clear HB'
  have FT' := hide (FT.out.below hB); clear FT; have FT := FT'; clear FT'
  clear cXT lXT; have XT' := hide (box_same XT.out hB); clear XT; have XT := XT'; clear XT'
  have cXT := blk_cell XT.out 0; have lXT := blk_lt XT.out; simp at cXT
  have FU' := hide (FU.out.below hB); clear FU; have FU := FU'; clear FU'
  clear cXU lXU; have XU' := hide (box_same XU.out hB); clear XU; have XU := XU'; clear XU'
  have cXU := blk_cell XU.out 0; have lXU := blk_lt XU.out; simp at cXU
  have FV' := hide (FV.out.below hB); clear FV; have FV := FV'; clear FV'
  have FK' := hide (FK.out.below hB); clear FK; have FK := FK'; clear FK'
  clear cXV lXV; have XV' := hide (box_same XV.out hB); clear XV; have XV := XV'; clear XV'
  have cXV := blk_cell XV.out 0; have lXV := blk_lt XV.out; simp at cXV
  have FI' := hide (FI.out.below hB); clear FI; have FI := FI'; clear FI'
  clear hB hb
  clear FI
  go_wp2_with fail
  go_at_call 42
  refine (ready_now lv_ wv [0] (k := 1) rfl wv_RT (by kernel_rfl) (by kernel_rfl) rfl (by kernel_rfl) _ (FV.out.below (by repeat (first | exact Below.refl _ _ | refine Below.drew ?_ | refine below_drewN ?_ _ | refine Below.alloc ?_ (by simp) _)))).mono ?_
  rintro e w15 ⟨A15, c15, rfl, h15, hb⟩
  have hB : Below w14.heap.size w14 w15 := below_then (by repeat (first | exact Below.refl _ _ | refine Below.drew ?_ | refine below_drewN ?_ _ | refine Below.alloc ?_ (by simp) _)) hb
  have HB' := hide (below_then HB.out hB); clear HB; have HB := HB'; clear HB'
  have FT' := hide (FT.out.below hB); clear FT; have FT := FT'; clear FT'
  clear cXT lXT; have XT' := hide (box_same XT.out hB); clear XT; have XT := XT'; clear XT'
  have cXT := blk_cell XT.out 0; have lXT := blk_lt XT.out; simp at cXT
  have FU' := hide (FU.out.below hB); clear FU; have FU := FU'; clear FU'
  clear cXU lXU; have XU' := hide (box_same XU.out hB); clear XU; have XU := XU'; clear XU'
  have cXU := blk_cell XU.out 0; have lXU := blk_lt XU.out; simp at cXU
  have FV' := hide (FV.out.below hB); clear FV; have FV := FV'; clear FV'
  have FK' := hide (FK.out.below hB); clear FK; have FK := FK'; clear FK'
  clear cXV lXV; have XV' := hide (box_same XV.out hB); clear XV; have XV := XV'; clear XV'
  have cXV := blk_cell XV.out 0; have lXV := blk_lt XV.out; simp at cXV
  have FJ := hide h15; clear h15
  clear hB hb
  go_wp2_with fail
  go_at_call 44
  refine (same_now [0] rfl rfl (by decide) _ (FJ.out.below (by repeat (first | exact Below.refl _ _ | refine Below.drew ?_ | refine below_drewN ?_ _ | refine Below.alloc ?_ (by simp) _))) (ints_at (x := [0]) (show (World.alloc _ _).heap[_]? = some (.cells #[.int .i64 0] 3 (0, 0)) from blk_new (by simp)) rfl)).mono ?_
  rintro e w16 ⟨rfl, hb⟩
  have hB : Below w15.heap.size w15 w16 := below_then (by repeat (first | exact Below.refl _ _ | refine Below.drew ?_ | refine below_drewN ?_ _ | refine Below.alloc ?_ (by simp) _)) hb
  have HB' := hide (below_then HB.out hB); clear HB; have HB := HB'; clear HB'
  have FT' := hide (FT.out.below hB); clear FT; have FT := FT'; clear FT'
  clear cXT lXT; have XT' := hide (box_same XT.out hB); clear XT; have XT := XT'; clear XT'
  have cXT := blk_cell XT.out 0; have lXT := blk_lt XT.out; simp at cXT
  have FU' := hide (FU.out.below hB); clear FU; have FU := FU'; clear FU'
  clear cXU lXU; have XU' := hide (box_same XU.out hB); clear XU; have XU := XU'; clear XU'
  have cXU := blk_cell XU.out 0; have lXU := blk_lt XU.out; simp at cXU
  have FV' := hide (FV.out.below hB); clear FV; have FV := FV'; clear FV'
  have FK' := hide (FK.out.below hB); clear FK; have FK := FK'; clear FK'
  clear cXV lXV; have XV' := hide (box_same XV.out hB); clear XV; have XV := XV'; clear XV'
  have cXV := blk_cell XV.out 0; have lXV := blk_lt XV.out; simp at cXV
  have FJ' := hide (FJ.out.below hB); clear FJ; have FJ := FJ'; clear FJ'
  clear hB hb
  obtain ⟨vad, VK, vkc, hVA, v0, v1, -, -⟩ := FV.out.nd_at (Below.refl _ _) (i := 0) rfl
  simp only [Nat.zero_mul, add_zero_] at v0 v1
  subst hVA
  go_wp2_with fail
  go_ret
  exact ⟨rfl, HB.out⟩
end Go.Proofs.Ytbobjecjopmnfaa
