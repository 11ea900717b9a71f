/- Trees: append, of one; how great Take's trees become. -/
import Derived.Test.YtbobjecjopmnfaaN2
namespace Go.Proofs.Ytbobjecjopmnfaa
open Go.RowKit
open Pt (szL sz encL enc roots encL_length roots_length enc_length shift RT)
section
variable {ops : Array Oper} {rest : List Oper} {o : Oper} {a : Act} {Q : Exit → Act → World → Prop} {K : Act → World → Prop}
theorem wp_append_pt (w : World) (s x : Operand) (ho : o.op = .call { callee := .builtin .append, args := #[s, x], argTypes := #[63, 63] })
    (ok : Nat → Prop) (A : Option Addr) (n c : Nat) (xs : List Pt) (hs : a.eval s = .slice A n c) (hxn : xs.length = n) (hown : OwnP El.pt w 65 ok (.slice A n c) xs)
    (g : Nat) (p : Pt) (KA : Option Addr) (kc : Nat) (hx : a.eval x = .slice (some ⟨g, 0, none⟩) 1 1) (hg : w.heap[g]? = some (.cells #[.int .u8 p.op, .int .i64 p.pl, .slice KA p.kids.length kc] 65 (0, 0)))
    (hk : Rds El.pt w (fun b => ok b ∧ ¬ Fp (.slice A n c) b) (.slice KA p.kids.length kc) p.kids) (hnew : ∀ b, w.heap.size ≤ b → ok b) (hn : n ≤ 2000000)
    (h : ∀ A' c' w', OwnP El.pt w' 65 ok (.slice A' (n + 1) c') (xs ++ [p]) → Only (Fp (.slice A n c)) w w' → (∀ b, Fp (.slice A' (n + 1) c') b → Fp (.slice A n c) b ∨ w.heap.size ≤ b) → K (a.put o.dst (.slice A' (n + 1) c')) w') : o.wp Try.prog a w K Q := by
  subst hxn
  obtain ⟨css, h1, h2, h3⟩ := hown
  have hpc : El.pt.P w (fun b => ok b ∧ ¬ Fp (.slice A xs.length c) b) p [.int .u8 p.op, .int .i64 p.pl, .slice KA p.kids.length kc] := El.pt_iff.2 ⟨KA, kc, rfl, hk⟩
  refine wp_append_row (P := Try.prog) w s x 63 65 ho _ 3 40 Try.underlying63 inf65 rfl (by decide) (by decide) (.slice A xs.length c) xs.length css.flatten hs h1 (fun _ => True) _ 1 [.int .u8 p.op, .int .i64 p.pl, .slice KA p.kids.length kc] hx (rd_block (cs := [.int .u8 p.op, .int .i64 p.pl, .slice KA p.kids.length kc]) hg rfl) (El.pt.one hpc) (by omega) ?_
  intro A' c' w' hrow honly hfp
  refine h A' c' w' (OwnP.grown (m := xs.length + 1) (ys := [p]) (dss := [[.int .u8 p.op, .int .i64 p.pl, .slice KA p.kids.length kc]]) h2 h3 (.cons hpc .nil) ?_ (by simp) honly hfp hnew) honly hfp
  have e : ([[Value.int .u8 p.op, .int .i64 p.pl, .slice KA p.kids.length kc]] : List (List Value)).flatten = [.int .u8 p.op, .int .i64 p.pl, .slice KA p.kids.length kc] := rfl
  rw [e]
  exact hrow
theorem wpList_append_pt (w : World) (hgd : o.guard = none) (s x : Operand) (ho : o.op = .call { callee := .builtin .append, args := #[s, x], argTypes := #[63, 63] })
    (ok : Nat → Prop) (A : Option Addr) (n c : Nat) (xs : List Pt) (hs : a.eval s = .slice A n c) (hxn : xs.length = n) (hown : OwnP El.pt w 65 ok (.slice A n c) xs)
    (g : Nat) (p : Pt) (KA : Option Addr) (kc : Nat) (hx : a.eval x = .slice (some ⟨g, 0, none⟩) 1 1) (hg : w.heap[g]? = some (.cells #[.int .u8 p.op, .int .i64 p.pl, .slice KA p.kids.length kc] 65 (0, 0)))
    (hk : Rds El.pt w (fun b => ok b ∧ ¬ Fp (.slice A n c) b) (.slice KA p.kids.length kc) p.kids) (hnew : ∀ b, w.heap.size ≤ b → ok b) (hn : n ≤ 2000000)
    (h : ∀ A' c' w', OwnP El.pt w' 65 ok (.slice A' (n + 1) c') (xs ++ [p]) → Only (Fp (.slice A n c)) w w' → (∀ b, Fp (.slice A' (n + 1) c') b → Fp (.slice A n c) b ∨ w.heap.size ≤ b) → wpList Try.prog ops Q rest (a.put o.dst (.slice A' (n + 1) c')) w') : wpList Try.prog ops Q (o :: rest) a w :=
  wpList_plain hgd fun _ hK => wp_append_pt w s x ho ok A n c xs hs hxn hown g p KA kc hx hg hk hnew hn fun A' c' w' h2 h3 h4 => hK _ _ (h A' c' w' h2 h3 h4)
theorem step_append_pt (w : World) {E : Prop} (hgd : o.guard = none) (s x : Operand) (ho : o.op = .call { callee := .builtin .append, args := #[s, x], argTypes := #[63, 63] })
    (ok : Nat → Prop) (A : Option Addr) (n c : Nat) (xs : List Pt) (hs : a.eval s = .slice A n c) (hxn : xs.length = n) (hown : OwnP El.pt w 65 ok (.slice A n c) xs)
    (g : Nat) (p : Pt) (KA : Option Addr) (kc : Nat) (hx : a.eval x = .slice (some ⟨g, 0, none⟩) 1 1) (hg : w.heap[g]? = some (.cells #[.int .u8 p.op, .int .i64 p.pl, .slice KA p.kids.length kc] 65 (0, 0)))
    (hk : Rds El.pt w (fun b => ok b ∧ ¬ Fp (.slice A n c) b) (.slice KA p.kids.length kc) p.kids) (hnew : ∀ b, w.heap.size ≤ b → ok b) (hn : n ≤ 2000000)
    (h : ∀ A' c' w', OwnP El.pt w' 65 ok (.slice A' (n + 1) c') (xs ++ [p]) → Only (Fp (.slice A n c)) w w' → (∀ b, Fp (.slice A' (n + 1) c') b → Fp (.slice A n c) b ∨ w.heap.size ≤ b) → K (a.put o.dst (.slice A' (n + 1) c')) w') :
    if Region.wanted o (yielded ops a.tmps) = true then Oper.wp Try.prog o a w K Q else E := by
  have hw : Region.wanted o (yielded ops a.tmps) = true := by simp [Region.wanted, hgd]
  rw [if_pos hw]
  exact wp_append_pt w s x ho ok A n c xs hs hxn hown g p KA kc hx hg hk hnew hn h
end
mutual
theorem takeT_TN : ∀ (p : Pt) (leaf : Int) (b : Pt), RT p → TN b → TN (takeT leaf b p)
  | .mk op pl ks, leaf, b, h, hb => by
    rw [takeT]
    split
    · exact hb
    · rename_i h3
      rcases RT.cases h with ⟨h1, _, rfl⟩ | ⟨h1, rfl, _, h4⟩
      · exact absurd h1 h3
      · exact putT_TN h1 (takeL_TN ks leaf b (fun q hq => (h4 q hq).1) hb)
theorem takeL_TN : ∀ (ps : List Pt) (leaf : Int) (b : Pt), RTs ps → TN b → ∀ q ∈ takeL leaf b ps, TN q
  | [], _, _, _, _, q, hq => by cases hq
  | p :: ps, leaf, b, h, hb, q, hq => by
    rw [takeL] at hq
    rcases List.mem_cons.1 hq with rfl | hq
    · split
      · exact takeT_TN p leaf b (h p (.head _)) hb
      · exact .inr (h p (.head _))
    · exact takeL_TN ps (leaf - sz p) b (fun q hq => h q (.tail _ hq)) hb q hq
end
mutual
theorem takeT_len : ∀ (p : Pt) (leaf : Int) (b : Pt), RT p → TN b → lenO (takeT leaf b p) ≤ sz p + lenO b
  | .mk op pl ks, leaf, b, h, hb => by
    rw [takeT]
    split
    · omega
    · rename_i h3
      rcases RT.cases h with ⟨h1, _, rfl⟩ | ⟨h1, rfl, _, h4⟩
      · exact absurd h1 h3
      · have hl := takeL_len ks leaf b (fun q hq => (h4 q hq).1) hb
        have hp := putT_len h1 (takeL_TN ks leaf b (fun q hq => (h4 q hq).1) hb)
        have hs : sz (.mk op 0 ks) = 1 + szL ks := by rw [sz]
        omega
theorem takeL_len : ∀ (ps : List Pt) (leaf : Int) (b : Pt), RTs ps → TN b → sumO (takeL leaf b ps) ≤ szL ps + lenO b
  | [], _, _, _, _ => by simp [takeL, sumO]
  | p :: ps, leaf, b, h, hb => by
    rw [takeL, sumO, szL]
    have hps : RTs ps := fun q hq => h q (.tail _ hq)
    split
    · rename_i hc
      have h1 := takeT_len p leaf b (h p (.head _)) hb
      rw [takeL_far ps (leaf - sz p) b (.inl (by omega)), sumO_RTs hps]
      omega
    · have h2 := takeL_len ps (leaf - sz p) b hps hb
      have := lenO_le p
      omega
end
theorem sumO_mem : ∀ {ps : List Pt} {q : Pt}, q ∈ ps → lenO q ≤ sumO ps
  | p :: ps, q, h => by
    rw [sumO]
    rcases List.mem_cons.1 h with rfl | h
    · omega
    · have := sumO_mem h
      omega
theorem TN.kids_le {p : Pt} (h : TN p) : p.kids.length ≤ lenO p := by
  rcases h with rfl | h
  · exact Nat.zero_le _
  · rw [lenO_RT h]
    obtain ⟨op, pl, ks⟩ := p
    have := szL_ge ks
    rw [sz]
    show ks.length ≤ _
    omega
theorem takeL_app : ∀ (a : List Pt) (leaf : Int) (b : Pt) (c : List Pt), takeL leaf b (a ++ c) = takeL leaf b a ++ takeL (leaf - szL a) b c
  | [], leaf, b, c => by simp [takeL, szL]
  | p :: ps, leaf, b, c => by
    rw [List.cons_append, takeL, takeL, takeL_app ps (leaf - sz p) b c, szL, List.cons_append]
    congr 3
    omega
theorem takeL_next {ks : List Pt} {j : Nat} {p : Pt} (h : ks[j]? = some p) (leaf : Int) (b : Pt) :
    takeL leaf b (ks.take (j + 1)) = takeL leaf b (ks.take j) ++ [if 0 ≤ leaf - szL (ks.take j) ∧ leaf - szL (ks.take j) < (sz p : Int) then takeT (leaf - szL (ks.take j)) b p else p] := by
  obtain ⟨hj, rfl⟩ := List.getElem?_eq_some_iff.1 h
  rw [List.take_succ_eq_append_getElem hj, takeL_app, takeL, takeL]
theorem takeL_length : ∀ (ps : List Pt) (leaf : Int) (b : Pt), (takeL leaf b ps).length = ps.length
  | [], _, _ => rfl
  | p :: ps, leaf, b => by rw [takeL, List.length_cons, List.length_cons, takeL_length]
/-- What Take's loop holds. -/
def TOk (w : World) (ok : Nat → Prop) (b : Nat) : Prop := (ok b ∧ b < w.heap.size) ∨ w.heap.size + 1 + 1 < b
structure Ta (w wr : World) (cp cb : Array Value) (ok : Nat → Prop) (xs : List Pt) (B : Option Addr) (q c : Nat) : Prop where
  bp : wr.heap[w.heap.size]? = some (.cells cp 65 (0, 0))
  bb : wr.heap[w.heap.size + 1]? = some (.cells cb 65 (0, 0))
  br : wr.heap[w.heap.size + 1 + 1]? = some (.cells #[.int .u8 0, .int .i64 0, .slice none 0 0] 65 (0, 0))
  own : OwnP El.pt wr 65 (TOk w ok) (.slice B q c) xs
  fp : ∀ b, Fp (.slice B q c) b → w.heap.size + 1 + 1 < b
  len : q = xs.length
  hb : Below w.heap.size w wr
section
variable {w wr W : World} {cp cb : Array Value} {ok : Nat → Prop} {xs : List Pt} {B : Option Addr} {q c : Nat}
theorem Ta.below (h : Ta w wr cp cb ok xs B q c) (hB : Below wr.heap.size wr W) : Ta w W cp cb ok xs B q c :=
  ⟨box_same h.bp hB, box_same h.bb hB, box_same h.br hB, h.own.below hB, h.fp, h.len, below_then h.hb hB⟩
theorem Ta.grow {W' : World} {p : Pt} {B' : Option Addr} {c' : Nat} (h : Ta w W cp cb ok xs B q c) (ho : OwnP El.pt W' 65 (TOk w ok) (.slice B' (q + 1) c') (xs ++ [p])) (hy : Only (Fp (.slice B q c)) W W') (hf : ∀ b, Fp (.slice B' (q + 1) c') b → Fp (.slice B q c) b ∨ W.heap.size ≤ b) : Ta w W' cp cb ok (xs ++ [p]) B' (q + 1) c' := by
  have hl := blk_lt h.br
  refine ⟨box_only h.bp hy (fun hx => by have := h.fp _ hx; omega), box_only h.bb hy (fun hx => by have := h.fp _ hx; omega), box_only h.br hy (fun hx => by have := h.fp _ hx; omega), ho, fun b hb => ?_, by rw [List.length_append, h.len]; rfl, h.hb.trans (hy.below (fun b hb => by have := h.fp b hb; omega) h.hb.size)⟩
  rcases hf b hb with h1 | h1
  · exact h.fp b h1
  · omega
/-- A tree of the argument's, as an element. -/
theorem Ta.old {ks : List Pt} {K : Option Addr} {n kc : Nat} (h : Ta w wr cp cb ok xs B q c) (hk : Rds El.pt w (fun b => ok b ∧ b < w.heap.size) (.slice K n kc) ks) : Rds El.pt wr (fun b => TOk w ok b ∧ ¬ Fp (.slice B q c) b) (.slice K n kc) ks :=
  (hk.below h.hb).mono (fun b hb _ => ⟨.inl hb, fun hx => by have := h.fp b hx; omega⟩)
/-- A tree that has come back, as an element. -/
theorem Ta.new {W1 : World} {ks : List Pt} {K : Option Addr} {n kc : Nat} (h : Ta w wr cp cb ok xs B q c) (hB : Below wr.heap.size wr W1) (hk : Rds El.pt W (fun b => (ok b ∧ b < w.heap.size) ∨ W1.heap.size ≤ b) (.slice K n kc) ks) : Rds El.pt W (fun b => TOk w ok b ∧ ¬ Fp (.slice B q c) b) (.slice K n kc) ks := by
  have hl := blk_lt h.br
  have hs := hB.size
  refine hk.mono (fun b hb _ => ?_)
  rcases hb with hb | hb
  · exact ⟨.inl hb, fun hx => by have := h.fp b hx; omega⟩
  · exact ⟨.inr (by omega), fun hx => by have := h.own.lt b hx; omega⟩
theorem tok_new (hl : w.heap.size + 1 + 1 < wr.heap.size) : ∀ b, wr.heap.size ≤ b → TOk w ok b := fun b hb => .inr (by omega)
end
end Go.Proofs.Ytbobjecjopmnfaa
