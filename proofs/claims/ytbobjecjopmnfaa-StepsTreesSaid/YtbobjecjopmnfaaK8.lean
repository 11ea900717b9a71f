/- What put's loops hold. -/
import Derived.Test.YtbobjecjopmnfaaK7
namespace Go.Proofs.Ytbobjecjopmnfaa
open Go.RowKit
open Pt (shift)
/-- A row of nodes of a bearable size, with small numbers. -/
def FitsK (l : List Nd) : Prop := l.length ≤ 1000 ∧ ∀ n ∈ l, n.kids.length ≤ 1000 ∧ ∀ k ∈ n.kids, 0 ≤ k ∧ k ≤ 1000
theorem FitsK.fits {l : List Nd} (h : FitsK l) : Fits22 l := ⟨h.1, fun n hn => (h.2 n hn).1⟩
/-- What is moved of a tree, and which places are told on. -/
def Moved (op : Int) (t ns : List Nd) (own : List Int) : Prop :=
  ∃ n, t.getLast? = some n ∧ ((n.op = op ∧ ns = t.dropLast ∧ own = n.kids) ∨ (n.op ≠ op ∧ ns = t ∧ own = [(t.length : Int) - 1]))
theorem Moved.step {op : Int} {t ns : List Nd} {own : List Int} (h : Moved op t ns own) (s : List Nd × List Int) : putStep op s t = (s.1 ++ ns.map (shift s.1.length), s.2 ++ own.map (· + (s.1.length : Int))) := by
  obtain ⟨n, hn, ⟨h1, rfl, rfl⟩ | ⟨h1, rfl, rfl⟩⟩ := h
  · unfold putStep
    rw [hn]
    simp only [if_pos h1]
  · unfold putStep
    rw [hn]
    simp only [if_neg h1]
    rfl
theorem Moved.fits {op : Int} {t ns : List Nd} {own : List Int} (h : Moved op t ns own) (hf : FitsK t) : FitsK ns ∧ own.length ≤ 1000 ∧ ∀ k ∈ own, 0 ≤ k ∧ k ≤ 1000 := by
  obtain ⟨n, hn, ⟨h1, rfl, rfl⟩ | ⟨h1, rfl, rfl⟩⟩ := h
  · have hm := List.mem_of_getLast? hn
    exact ⟨⟨by rw [List.length_dropLast]; have := hf.1; omega, fun n hn => hf.2 n (List.dropLast_subset _ hn)⟩, (hf.2 n hm).1, (hf.2 n hm).2⟩
  · refine ⟨hf, by simp, fun k hk => ?_⟩
    rw [List.mem_singleton] at hk
    have h1 := hf.1
    have : 0 < ns.length := by
      cases ns with
      | nil => cases hn
      | cons => simp
    omega
theorem putStep_nil (op : Int) (s : List Nd × List Int) : putStep op s [] = s := rfl
/-- The sums stay small. -/
def Small (j : Nat) (s : List Nd × List Int) : Prop := s.1.length ≤ j * 1000 ∧ s.2.length ≤ j * 1000
theorem Small.step {op : Int} {j : Nat} {t ns : List Nd} {own : List Int} {s : List Nd × List Int} (h : Small j s) (hm : Moved op t ns own) (hf : FitsK t) : Small (j + 1) (putStep op s t) := by
  obtain ⟨h1, h2, _⟩ := hm.fits hf
  rw [hm.step s]
  have := h1.1
  refine ⟨?_, ?_⟩
  · have := h.1
    simp only [List.length_append, List.length_map]
    omega
  · have := h.2
    simp only [List.length_append, List.length_map]
    omega
theorem Small.skip {j : Nat} {s : List Nd × List Int} (h : Small j s) : Small (j + 1) s := by
  unfold Small at *
  rw [Nat.succ_mul]
  exact ⟨Nat.le_trans h.1 (Nat.le_add_right _ _), Nat.le_trans h.2 (Nat.le_add_right _ _)⟩
/-- What put's loops hold: two boxes; the nodes so far; the places of the parts so far. -/
structure PutI (w wr : World) (OA : Option Addr) (on oc : Nat) (out : List Nd) (KA : Option Addr) (kn kc : Nat) (kids : List Int) : Prop where
  b4 : wr.heap[w.heap.size]? = some (.cells #[.slice none 0 0] 59 (0, 0))
  b5 : wr.heap[w.heap.size + 1]? = some (.cells #[.slice OA on oc] 59 (0, 0))
  own : OwnP El.ndO wr 76 (fun b => w.heap.size ≤ b ∧ ¬ Fp (.slice KA kn kc) b) (.slice OA on oc) out
  olen : on = out.length
  krow : Row wr 3 1 (.slice KA kn kc) kn (ints kids)
  klen : kn = kids.length
  kfp : ∀ b, Fp (.slice KA kn kc) b → w.heap.size ≤ b
  hb : Below w.heap.size w wr
section
variable {w wr W W' : World} {OA OA' KA KA' : Option Addr} {on oc oc' kn kc kc' : Nat} {out : List Nd} {kids : List Int}
theorem PutI.below (h : PutI w wr OA on oc out KA kn kc kids) (hb : Below wr.heap.size wr W) : PutI w W OA on oc out KA kn kc kids :=
  ⟨box_same h.b4 hb, box_same h.b5 hb, h.own.below hb, h.olen, h.krow.below hb, h.klen, h.kfp, h.hb.trans (hb.mono h.hb.size)⟩
theorem PutI.nofp (h : PutI w wr OA on oc out KA kn kc kids) : ¬ Fp (.slice OA on oc) w.heap.size ∧ ¬ Fp (.slice OA on oc) (w.heap.size + 1) := by
  obtain ⟨css, hr, _⟩ := h.own
  exact ⟨hr.ne_ h.b4 (by decide), hr.ne_ h.b5 (by decide)⟩
theorem PutI.far (h : PutI w wr OA on oc out KA kn kc kids) (hb : Below wr.heap.size wr W) (ho : Only (Fp (.slice OA on oc)) W W') : W'.heap[w.heap.size + 1]? = some (.cells #[.slice OA on oc] 59 (0, 0)) :=
  box_only (h.below hb).b5 ho (h.below hb).nofp.2
/-- One node more. -/
theorem PutI.push {n : Nd} (h : PutI w wr OA on oc out KA kn kc kids) (hb : Below wr.heap.size wr W) (ho : Only (Fp (.slice OA on oc)) W W')
    (hown : OwnP El.ndO W' 76 (fun b => w.heap.size ≤ b ∧ ¬ Fp (.slice KA kn kc) b) (.slice OA' (on + 1) oc') (out ++ [n])) : PutI w (W'.setCell ⟨w.heap.size + 1, 0, none⟩ (.slice OA' (on + 1) oc')) OA' (on + 1) oc' (out ++ [n]) KA kn kc kids := by
  have h2 := h.below hb
  have b4 := box_only h2.b4 ho h2.nofp.1
  have b5 := box_only h2.b5 ho h2.nofp.2
  have hk : Row W' 3 1 (.slice KA kn kc) kn (ints kids) := h2.krow.only ho (fun b h3 h4 => (h2.own.fp b h4).2 h3)
  refine ⟨blk_far (p := ⟨w.heap.size + 1, 0, none⟩) b4 (by simp) _, blk_set b5 0 _, hown.poke b5 (by decide) (by decide) _, by rw [List.length_append, h.olen]; rfl, hk.setCell (p := ⟨w.heap.size + 1, 0, none⟩) (hk.ne_ b5 (by decide)) _, h.klen, h.kfp, ?_⟩
  exact (h2.hb.trans (ho.below (fun b hb => (h2.own.fp b hb).1) h2.hb.size)).setCell (by show w.heap.size ≤ w.heap.size + 1; omega) _
/-- One place more. -/
theorem PutI.kid {x : Int} (h : PutI w wr OA on oc out KA kn kc kids) (hb : Below wr.heap.size wr W) (ho : Only (Fp (.slice KA kn kc)) W W') (hrow : Row W' 3 1 (.slice KA' (kn + 1) kc') (kn + 1) (ints (kids ++ [x])))
    (hf : ∀ b, Fp (.slice KA' (kn + 1) kc') b → Fp (.slice KA kn kc) b ∨ W.heap.size ≤ b) : PutI w W' OA on oc out KA' (kn + 1) kc' (kids ++ [x]) := by
  have h2 := h.below hb
  have n4 : ¬ Fp (.slice KA kn kc) w.heap.size := h2.krow.ne_ h2.b4 (by decide)
  have n5 : ¬ Fp (.slice KA kn kc) (w.heap.size + 1) := h2.krow.ne_ h2.b5 (by decide)
  have hlt := h2.own
  refine ⟨box_only h2.b4 ho n4, box_only h2.b5 ho n5, ?_, h.olen, hrow, by rw [List.length_append, h.klen]; rfl, fun b hb => (hf b hb).elim (h.kfp b) (Nat.le_trans h2.hb.size), h2.hb.trans (ho.below h.kfp h2.hb.size)⟩
  have h3 := h2.own.mono (ok' := fun b => (w.heap.size ≤ b ∧ ¬ Fp (.slice KA kn kc) b) ∧ b < W.heap.size) (fun b h1 h2 => ⟨h1, h2⟩)
  refine (h3.only ho (fun b h1 h2 => h1.1.2 h2)).mono (fun b h1 _ => ⟨h1.1.1, fun h4 => ?_⟩)
  rcases hf b h4 with h5 | h5
  · exact h1.1.2 h5
  · exact absurd h1.2 (Nat.not_lt.2 h5)
end
theorem map_take_next {l : List Int} {j : Nat} {x : Int} (f : Int → Int) (h : l[j]? = some x) : (l.take (j + 1)).map f = (l.take j).map f ++ [f x] := by
  obtain ⟨hj, rfl⟩ := List.getElem?_eq_some_iff.1 h
  rw [List.take_succ_eq_append_getElem hj, List.map_append]
  rfl
theorem map_take_nd {l : List Nd} {j : Nat} {x : Nd} (f : Nd → Nd) (h : l[j]? = some x) : (l.take (j + 1)).map f = (l.take j).map f ++ [f x] := by
  obtain ⟨hj, rfl⟩ := List.getElem?_eq_some_iff.1 h
  rw [List.take_succ_eq_append_getElem hj, List.map_append]
  rfl
/-- An element of a row of rows, seen from a later world. -/
theorem Rds.row_at {w w' : World} {ok : Nat → Prop} {A : Option Addr} {n c : Nat} {xs : List (List Nd)} (h : Rds (El.row El.nd) w ok (.slice A n c) xs) (hB : Below w.heap.size w w') {i : Nat} {x : List Nd} (hx : xs[i]? = some x) :
    ∃ ad K kc, A = some ad ∧ w'.cell? (ad.add i) = some (.slice K x.length kc) ∧ Rds El.nd w ok (.slice K x.length kc) x := by
  obtain ⟨hi, rfl⟩ := List.getElem?_eq_some_iff.1 hx
  obtain ⟨ad, cs, hA, -, -, ⟨K, kc, he, hk⟩, hc⟩ := h.get i hi
  subst he
  have h0 := hc 0 _ rfl
  have e : i * (El.row El.nd).sz + 0 = i := by show i * 1 + 0 = i; omega
  rw [e] at h0
  exact ⟨ad, K, kc, hA, (hB.cell (World.block_lt_of_cell? w _ h0)).trans h0, hk⟩
theorem Rd.take {w : World} {ok : Nat → Prop} {sz n c k : Nat} {A : Option Addr} {xs : List Value} (h : Rd w ok sz (.slice A n c) n xs) (hk : k ≤ n) : Rd w ok sz (.slice A k c) k (xs.take (k * sz)) := by
  obtain ⟨h1, A', c', he, h3, h4⟩ := h
  injection he with e1 _ e3
  subst e1; subst e3
  refine ⟨by rw [List.length_take, h1]; exact Nat.min_eq_left (Nat.mul_le_mul_right _ hk), A, c, rfl, by omega, fun h0 => ?_⟩
  obtain ⟨ad, h5, h6, h7⟩ := h4 (by omega)
  refine ⟨ad, h5, h6, fun j u hu => h7 j u ?_⟩
  rw [List.getElem?_take] at hu
  split at hu
  · exact hu
  · cases hu
theorem all2_take {β γ : Type} {R : β → γ → Prop} : ∀ (k : Nat) {l : List β} {m : List γ}, All2 R l m → All2 R (l.take k) (m.take k)
  | 0, _, _, _ => by simpa using All2.nil
  | _ + 1, _, _, .nil => by simpa using All2.nil
  | k + 1, _, _, .cons a b => by simpa using All2.cons a (all2_take k b)
theorem flatten_take {α : Type} {d : El α} {w : World} {ok : Nat → Prop} : ∀ (k : Nat) {xs : List α} {css : List (List Value)}, All2 (d.P w ok) xs css → css.flatten.take (k * d.sz) = (css.take k).flatten
  | 0, _, _, _ => by simp
  | _ + 1, _, _, .nil => by simp
  | k + 1, _, _, .cons a b => by
    rw [List.flatten_cons, List.take_succ_cons, List.flatten_cons, Nat.succ_mul, Nat.add_comm, List.take_append, d.len a, List.take_of_length_le (by rw [d.len a]; omega), Nat.add_sub_cancel_left, flatten_take k b]
theorem Rds.take {α : Type} {d : El α} {w : World} {ok : Nat → Prop} {n c k : Nat} {A : Option Addr} {xs : List α} (h : Rds d w ok (.slice A n c) xs) (hn : n = xs.length) (hk : k ≤ n) : Rds d w ok (.slice A k c) (xs.take k) := by
  subst hn
  obtain ⟨css, h1, h2⟩ := h
  refine ⟨css.take k, ?_, all2_take k h2⟩
  rw [← flatten_take k h2]
  have := h1.take hk
  rwa [List.length_take, Nat.min_eq_left hk]
theorem wpList_make_ints (w : World) {ops : Array Oper} {rest : List Oper} {o : Oper} {a : Act} {Q : Exit → Act → World → Prop} (hg : o.guard = none) (l c : Operand) (hop : o.op = Op.makeSlice 36 l c) (n : Nat)
    (hl : a.eval l = .int .i64 0) (hc : a.eval c = .int .i64 n) (hn : n ≤ 100000)
    (hK : ∀ w', Row w' 3 1 (.slice (some ⟨w.heap.size, 0, none⟩) 0 n) 0 (ints []) → (∀ b, Fp (.slice (some ⟨w.heap.size, 0, none⟩) 0 n) b → w.heap.size ≤ b) → Below w.heap.size w w' → wpList Try.prog ops Q rest (a.put o.dst (.slice (some ⟨w.heap.size, 0, none⟩) 0 n)) w') :
    wpList Try.prog ops Q (o :: rest) a w := by
  obtain ⟨i, hi, hz0, hz1, hz2⟩ := info_parts inf3
  refine wpList_make_own w hg l c 36 hop w.heap.size 3 i (.int .i64 0) 1 Try.underlying36 hi hz0 hz1 .i64 .i64 _ n hl hc rfl (by rw [hz2]; omega) (by unfold maxLen; omega) (Nat.le_refl _) ?_
  intro w' hown hgr
  obtain ⟨h1, h2⟩ := Row.of_own hown
  exact hK w' h1 h2 ((Below.refl _ _).grown hgr (Nat.le_refl _) (fun k h => by cases h))
/-- The end: what has been put together comes back. -/
theorem PutI.done {w wr : World} {OA KA : Option Addr} {on oc kn kc : Nat} {out : List Nd} {kids : List Int} (h : PutI w wr OA on oc out KA kn kc kids) : MadeT out w (.returned (.agg #[.slice OA on oc])) (wr.setCell ⟨w.heap.size, 0, none⟩ (.slice OA on oc)) := by
  have e := h.olen
  subst e
  exact ⟨OA, oc, rfl, (h.own.mono (fun b hb _ => hb.1)).poke h.b4 (by decide) (by decide) _, h.hb.setCell (Nat.le_refl _) _⟩
theorem PutI.done2 {w wr W W' : World} {OA OA' KA : Option Addr} {on oc oc' kn kc : Nat} {out : List Nd} {kids : List Int} {n : Nd} (h : PutI w wr OA on oc out KA kn kc kids) (hb : Below wr.heap.size wr W) (ho : Only (Fp (.slice OA on oc)) W W')
    (hown : OwnP El.ndO W' 76 (fun b => w.heap.size ≤ b) (.slice OA' (on + 1) oc') (out ++ [n])) : MadeT (out ++ [n]) w (.returned (.agg #[.slice OA' (on + 1) oc'])) ((W'.setCell ⟨w.heap.size + 1, 0, none⟩ (.slice OA' (on + 1) oc')).setCell ⟨w.heap.size, 0, none⟩ (.slice OA' (on + 1) oc')) := by
  have h2 := h.below hb
  have b4 := box_only h2.b4 ho h2.nofp.1
  have b5 := box_only h2.b5 ho h2.nofp.2
  have e := h.olen
  subst e
  have hl : (out ++ [n]).length = out.length + 1 := by simp
  refine ⟨OA', oc', by rw [hl], ?_, ?_⟩
  · have h3 := hown.poke (i := 0) b5 (by decide) (by decide) (.slice OA' (out.length + 1) oc')
    have h4 := h3.poke (i := 0) (blk_far (p := ⟨w.heap.size + 1, 0, none⟩) b4 (by simp) _) (by decide) (by decide) (.slice OA' (out.length + 1) oc')
    rw [hl]
    exact h4
  · exact ((h2.hb.trans (ho.below (fun b hb => (h2.own.fp b hb).1) h2.hb.size)).setCell (by show w.heap.size ≤ w.heap.size + 1; omega) _).setCell (Nat.le_refl _) _
end Go.Proofs.Ytbobjecjopmnfaa
