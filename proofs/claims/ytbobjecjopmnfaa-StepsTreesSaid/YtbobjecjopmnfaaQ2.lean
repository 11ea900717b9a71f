/- What StepsTrees knows of small rows, and the calls behind its first loop. -/
import Derived.Test.YtbobjecjopmnfaaP3
import Derived.Test.YtbobjecjopmnfaaQ1
namespace Go.Proofs.Ytbobjecjopmnfaa
open Go.RowKit
open Pt (szL sz encL enc roots encL_length roots_length enc_length shift RT)
theorem small_sum : ∀ {rows : List (List Nd)}, (∀ r ∈ rows, Few22 r) → rows.all rightB = true → sumO (rows.map fun r => (ofT r).1) ≤ 60 * rows.length
  | [], _, _ => by simp [sumO]
  | r :: rows, hf, h => by
    rw [List.all_cons, Bool.and_eq_true] at h
    have ih := small_sum (rows := rows) (fun x hx => hf x (.tail _ hx)) h.2
    have h1 := (hf r (.head _)).1
    have h2 := (ofT_right2 h.1).2
    have h3 : lenO (ofT r).1 = r.length := by rw [lenO, ← h2]
    rw [List.map_cons, sumO, List.length_cons]
    omega
theorem allR_fits {op : Int} (ho : op = 1 ∨ op = 2) {rows : List (List Nd)} (hl : rows.length ≤ 6) (hf : ∀ r ∈ rows, Few22 r) : Fits22 (allR op rows) := by
  cases h : rows.all rightB with
  | false =>
    rw [allR_wrong h]
    exact ⟨Nat.zero_le _, fun n hn => by cases hn⟩
  | true =>
    obtain ⟨h1, h2⟩ := allR_right ho h
    rw [h1]
    have h3 := putT_len ho h2
    have h4 := small_sum hf h
    exact (encO_fits (putT_TN ho h2) (by omega)).fits
theorem rows_fitsK {rows : List (List Nd)} (hf : ∀ r ∈ rows, Few22 r) (hw : rows.any wrongB = false) : ∀ r ∈ rows, FitsK r := fun r hr => by
  have h : rightB r = true := by
    rw [List.any_eq_false] at hw
    have h1 := hw r hr
    unfold wrongB at h1
    simpa using h1
  obtain ⟨h1, h2⟩ := ofT_right2 h
  rw [h2]
  refine encO_fits h1 ?_
  rw [lenO, ← h2]
  have h3 := (hf r hr).1
  omega
theorem put_call {op : Int} (ho : op = 1 ∨ op = 2) {rows : List (List Nd)} (hl : rows.length ≤ 6) (hf : ∀ r ∈ rows, Few22 r) (h : rows.all rightB = true) {n : Nat} (hn : n = rows.length) {ok : Nat → Prop} {A : Option Addr} {c : Nat} (W : World) (hr : Rds El.pt W ok (.slice A n c) (rows.map fun r => (ofT r).1)) :
    Calls Try.prog 45 #[.int .u8 op, .slice A n c] W (GetP (putT op (rows.map fun r => (ofT r).1)) ok W) := by
  refine rput_any op _ (by rw [List.length_map]; exact hn) (by omega) (fun p hp => ?_) (by rcases ho with rfl | rfl <;> decide) W hr
  obtain ⟨r, hr, rfl⟩ := List.mem_map.1 hp
  obtain ⟨h1, h2⟩ := ofT_right2 (List.all_eq_true.1 h r hr)
  have h3 := TN.kids_le h1
  rw [lenO, ← h2] at h3
  have h4 := (hf r hr).1
  omega
theorem row_call {op : Int} (ho : op = 1 ∨ op = 2) {rows : List (List Nd)} (hl : rows.length ≤ 6) (hf : ∀ r ∈ rows, Few22 r) (h : rows.all rightB = true) {ok : Nat → Prop} {A : Option Addr} {c : Nat} (W : World) {p : Pt} (hp : p = putT op (rows.map fun r => (ofT r).1)) (hr : Rds El.pt W ok (.slice A p.kids.length c) p.kids) :
    Calls Try.prog 36 #[.agg #[.int .u8 p.op, .int .i64 p.pl, .slice A p.kids.length c]] W (GetR (allR op rows) W) := by
  obtain ⟨h1, h2⟩ := allR_right ho h
  rw [h1]
  subst hp
  have h3 := putT_len ho h2
  have h4 := small_sum hf h
  exact rrow_TN (putT_TN ho h2) (by omega) W hr
/-- A row that is read comes back. -/
def GotM (m : Nat) (l : List Nd) (w : World) (e : Ending) (w' : World) : Prop := ∃ A c, e = .returned (.slice A m c) ∧ Rds El.nd w' (fun b => w.heap.size ≤ b) (.slice A m c) l ∧ Below w.heap.size w w'
/-- A tree of the call's own comes back. -/
def MadeM (m : Nat) (l : List Nd) (w : World) (e : Ending) (w' : World) : Prop := ∃ A c, e = .returned (.agg #[.slice A m c]) ∧ OwnP El.ndO w' 76 (fun b => w.heap.size ≤ b) (.slice A m c) l ∧ Below w.heap.size w w'
theorem is_call {l m : List Nd} {n n' : Nat} {d : Bool} (hn : n = l.length) (hn' : n' = m.length) (hf : Fits22 l) (hd : d = decide (l = m)) (W : World) (ok ok' : Nat → Prop) (A : Option Addr) (c : Nat) (A' : Option Addr) (c' : Nat) (h : Rds El.nd W ok (.slice A n c) l) (h' : Rds El.nd W ok' (.slice A' n' c') m) :
    Calls Try.prog 39 #[.agg #[.slice A n c], .slice A' n' c'] W (SaysB d W) := by
  subst hn; subst hn'; subst hd
  exact is22_any l m hf W h h'
/-- The calls behind the first loop. -/
structure Tail (w : World) (A : Option Addr) (n c : Nat) (kind at_ : Int) (gb d : Bool) (a1 a2 a3 : List Nd) (m1 m2 m3 : Nat) (p1 p2 p3 : Pt) (ps : List Pt) : Prop where
  nil : gb = false → a1 = [] ∧ a2 = [] ∧ m1 = 0 ∧ m2 = 0
  put1 : gb = true → ∀ (W : World) (ok : Nat → Prop) (PB : Option Addr) (pc : Nat), Rds El.pt W ok (.slice PB n pc) ps → Calls Try.prog 45 #[.int .u8 1, .slice PB n pc] W (GetP p1 ok W)
  put2 : gb = true → ∀ (W : World) (ok : Nat → Prop) (PB : Option Addr) (pc : Nat), Rds El.pt W ok (.slice PB n pc) ps → Calls Try.prog 45 #[.int .u8 2, .slice PB n pc] W (GetP p2 ok W)
  row1 : gb = true → ∀ (W : World) (ok : Nat → Prop) (K : Option Addr) (kc : Nat), Rds El.pt W ok (.slice K p1.kids.length kc) p1.kids → Calls Try.prog 36 #[.agg #[.int .u8 p1.op, .int .i64 p1.pl, .slice K p1.kids.length kc]] W (GotM m1 a1 W)
  row2 : gb = true → ∀ (W : World) (ok : Nat → Prop) (K : Option Addr) (kc : Nat), Rds El.pt W ok (.slice K p2.kids.length kc) p2.kids → Calls Try.prog 36 #[.agg #[.int .u8 p2.op, .int .i64 p2.pl, .slice K p2.kids.length kc]] W (GotM m2 a2 W)
  row3 : ∀ (W : World), Calls Try.prog 36 #[.agg #[.int .u8 p3.op, .int .i64 p3.pl, .slice none 0 0]] W (GotM m3 a3 W)
  ino : ∀ (W : World), Below w.heap.size w W → Calls Try.prog 46 #[.slice A n c] W (MadeM m1 a1 W)
  bes : ∀ (W : World), Below w.heap.size w W → Calls Try.prog 47 #[.slice A n c] W (MadeM m2 a2 W)
  lf : ∀ (W : World), Calls Try.prog 48 #[.int .u8 kind, .int .i64 at_] W (MadeM m3 a3 W)
  rlf : ∀ (W : World), Calls Try.prog 49 #[.int .u8 kind, .int .i64 at_] W fun e w' => e = .returned (.agg #[.int .u8 p3.op, .int .i64 p3.pl, .slice none 0 0]) ∧ Below W.heap.size W w'
  is1 : ∀ (W : World) (ok ok' : Nat → Prop) (K : Option Addr) (kc : Nat) (K' : Option Addr) (kc' : Nat), Rds El.nd W ok (.slice K m1 kc) a1 → Rds El.nd W ok' (.slice K' m1 kc') a1 → Calls Try.prog 39 #[.agg #[.slice K m1 kc], .slice K' m1 kc'] W (SaysB true W)
  is2 : ∀ (W : World) (ok ok' : Nat → Prop) (K : Option Addr) (kc : Nat) (K' : Option Addr) (kc' : Nat), Rds El.nd W ok (.slice K m2 kc) a2 → Rds El.nd W ok' (.slice K' m2 kc') a2 → Calls Try.prog 39 #[.agg #[.slice K m2 kc], .slice K' m2 kc'] W (SaysB true W)
  is3 : ∀ (W : World) (ok ok' : Nat → Prop) (K : Option Addr) (kc : Nat) (K' : Option Addr) (kc' : Nat), Rds El.nd W ok (.slice K m3 kc) a3 → Rds El.nd W ok' (.slice K' m3 kc') a3 → Calls Try.prog 39 #[.agg #[.slice K m3 kc], .slice K' m3 kc'] W (SaysB true W)
  isx : ∀ (W : World) (ok ok' : Nat → Prop) (K : Option Addr) (kc : Nat) (K' : Option Addr) (kc' : Nat), Rds El.nd W ok (.slice K m1 kc) a1 → Rds El.nd W ok' (.slice K' m2 kc') a2 → Calls Try.prog 39 #[.agg #[.slice K m1 kc], .slice K' m2 kc'] W (SaysB d W)
  sm : ∀ (W : World) (ok ok' : Nat → Prop) (K : Option Addr) (kc : Nat) (K' : Option Addr) (kc' : Nat), Rds El.nd W ok (.slice K m1 kc) a1 → Rds El.nd W ok' (.slice K' m2 kc') a2 → Calls Try.prog 43 #[.agg #[.slice K m1 kc], .agg #[.slice K' m2 kc']] W (SaysB d W)
  hm1 : m1 = a1.length
  hm2 : m2 = a2.length
  hf1 : Fits22 a1
  hf2 : Fits22 a2
theorem leafT_kids (op pl : Int) : (leafT op pl).kids = [] := by
  unfold leafT
  split <;> rfl
theorem leafR_len (op pl : Int) : (leafR op pl).length ≤ 1 := by
  unfold leafR
  split <;> simp
theorem leafR_fits (op pl : Int) : Fits22 (leafR op pl) := by
  unfold leafR
  split
  · refine ⟨by simp, fun n hn => ?_⟩
    rw [List.mem_singleton] at hn
    subst hn
    simp
  · exact ⟨by simp, fun n hn => by simp at hn⟩
theorem tail_of {w : World} {ok0 : Nat → Prop} {A : Option Addr} {n c : Nat} (rows : List (List Nd)) (kind at_ : Int) {gb : Bool} {ps : List Pt} (hn : n = rows.length) (hl : n ≤ 6) (hf : ∀ r ∈ rows, Few22 r) (h : Rds (El.row El.nd) w ok0 (.slice A n c) rows) (hps : ps = rows.map fun r => (ofT r).1) (hgb : gb = rows.all rightB) :
    ∃ d a1 a2 a3 m1 m2 m3 p1 p2 p3, Tail w A n c kind at_ gb d a1 a2 a3 m1 m2 m3 p1 p2 p3 ps := by
  have hl6 : rows.length ≤ 6 := by omega
  have o1 : (1 : Int) = 1 ∨ (1 : Int) = 2 := .inl rfl
  have o2 : (2 : Int) = 1 ∨ (2 : Int) = 2 := .inr rfl
  have f1 := allR_fits o1 hl6 hf
  have f2 := allR_fits o2 hl6 hf
  have hfit : ∀ r ∈ rows, Fits22 r := fun r hr => ⟨by have := (hf r hr).1; omega, fun x hx => by have := (hf r hr).2 x hx; omega⟩
  subst hps
  refine ⟨decide (allR 1 rows = allR 2 rows), allR 1 rows, allR 2 rows, leafR kind at_, (allR 1 rows).length, (allR 2 rows).length, (leafR kind at_).length, putT 1 (rows.map fun r => (ofT r).1), putT 2 (rows.map fun r => (ofT r).1), leafT kind at_, ?_⟩
  exact {
    nil := fun hg => by
      have h1 : rows.all rightB = false := by rw [← hgb]; exact hg
      exact ⟨allR_wrong h1, allR_wrong h1, by rw [allR_wrong h1]; rfl, by rw [allR_wrong h1]; rfl⟩
    put1 := fun hg W ok PB pc hr => put_call o1 hl6 hf (by rw [← hgb]; exact hg) hn W hr
    put2 := fun hg W ok PB pc hr => put_call o2 hl6 hf (by rw [← hgb]; exact hg) hn W hr
    row1 := fun hg W ok K kc hr => row_call o1 hl6 hf (by rw [← hgb]; exact hg) W rfl hr
    row2 := fun hg W ok K kc hr => row_call o2 hl6 hf (by rw [← hgb]; exact hg) W rfl hr
    row3 := fun W => by
      have h1 := rrow_TN (leafT_TN kind at_) (by rw [lenO, leafT_enc]; have := leafR_len kind at_; omega) (ok := fun _ => True) (A := none) (c := 0) W (by rw [leafT_kids]; exact Rds.nil)
      rw [leafT_kids, leafT_enc] at h1
      exact h1
    ino := fun W hB => inorder_any rows hn (by omega) W (h.below hB) hfit (rows_fitsK hf)
    bes := fun W hB => beside_any rows hn (by omega) W (h.below hB) hfit (rows_fitsK hf)
    lf := fun W => sleaf_any kind at_ W
    rlf := fun W => rleaf_any kind at_ W
    is1 := is_call rfl rfl f1 (by simp)
    is2 := is_call rfl rfl f2 (by simp)
    is3 := is_call rfl rfl (leafR_fits kind at_) (by simp)
    isx := is_call rfl rfl f1 rfl
    sm := fun W ok ok' K kc K' kc' h1 h2 => same43_any _ _ rfl rfl (by have := f1.1; omega) (fun x hx => by have := f1.2 x hx; omega) W h1 h2
    hm1 := rfl
    hm2 := rfl
    hf1 := f1
    hf2 := f2 }
end Go.Proofs.Ytbobjecjopmnfaa
