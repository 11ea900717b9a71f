/- Rows of nodes of the call's own, whose nodes have rows of their own. -/
import Derived.Test.YtbobjecjopmnfaaJ3
namespace Go.Proofs.Ytbobjecjopmnfaa
open Go.RowKit
theorem inf3 : (Try.prog.info? 3).map (fun i => (i.zero, i.size, i.bytes)) = some (some (.int .i64 0), 1, 8) := by kernel_rfl
theorem inf76 : (Try.prog.info? 76).map (fun i => (i.zero, i.size, i.bytes)) = some (some (.agg #[(.int .u8 0), (.int .i64 0), (.slice none 0 0)]), 3, 40) := by kernel_rfl
theorem inf59 : (Try.prog.info? 59).map (fun i => (i.zero, i.size, i.bytes)) = some (some (.agg #[(.slice none 0 0)]), 1, 24) := by kernel_rfl
/-- Rows of nodes of a bearable size. -/
def Fits22 (l : List Nd) : Prop := l.length ≤ 1000 ∧ ∀ n ∈ l, n.kids.length ≤ 1000
def ints (l : List Int) : List Value := l.map (Value.int .i64)
theorem ints_append (a b : List Int) : ints (a ++ b) = ints a ++ ints b := by simp [ints]
theorem ints_length (a : List Int) : (ints a).length = a.length := by simp [ints]
theorem ints_one {l : List Int} : ∀ x ∈ ints l, x.oneCell' = true := by
  intro x hx
  obtain ⟨_, _, rfl⟩ := List.mem_map.1 hx
  rfl
theorem all2_ints {w : World} {ok : Nat → Prop} : ∀ {l : List Int} {css : List (List Value)}, All2 (El.int.P w ok) l css → css.flatten = ints l
  | _, _, .nil => rfl
  | _, _, .cons (b := b) a t => by
    have e : b = [.int .i64 _] := a
    rw [List.flatten_cons, all2_ints t, e]
    rfl
theorem all2_of_ints {w : World} {ok : Nat → Prop} : ∀ (l : List Int), All2 (El.int.P w ok) l (l.map fun x => [.int .i64 x])
  | [] => .nil
  | _ :: l => .cons rfl (all2_of_ints l)
theorem flatten_ints : ∀ (l : List Int), (l.map fun x => [Value.int .i64 x]).flatten = ints l
  | [] => rfl
  | _ :: l => by rw [List.map_cons, List.flatten_cons, flatten_ints l]; rfl
/-- A row of integers that is read. -/
theorem Rds.rd_ints {w : World} {ok : Nat → Prop} {v : Value} {l : List Int} (h : Rds El.int w ok v l) : Rd w ok 1 v l.length (ints l) := by
  obtain ⟨css, h1, h2⟩ := h
  rw [all2_ints h2] at h1
  exact h1
theorem Rds.of_ints {w : World} {ok : Nat → Prop} {v : Value} {l : List Int} (h : Rd w ok 1 v l.length (ints l)) : Rds El.int w ok v l := ⟨_, by rw [flatten_ints]; exact h, all2_of_ints l⟩
/-- A node whose parts' row is the call's own. -/
def El.ndO : El Nd where
  sz := 3
  pos := by decide
  P := fun w ok n cs => ∃ v, cs = [.int .u8 n.op, .int .i64 n.pl, v] ∧ Row w 3 1 v n.kids.length (ints n.kids) ∧ ∀ b, Fp v b → ok b
  len := by rintro w ok x cs ⟨v, rfl, _⟩; rfl
  one := by
    rintro w ok x cs ⟨v, rfl, hr, _⟩ u hu
    obtain ⟨A, c, rfl, _⟩ := hr.slice_
    simp at hu
    rcases hu with rfl | rfl | rfl <;> rfl
  move := by rintro w w' ok x cs hk ⟨v, he, hr, ho⟩; exact ⟨v, he, hr.keep (fun b hb => hk b (ho b hb) (hr.lt b hb)), ho⟩
  mono := by rintro w ok ok' x cs hk ⟨v, he, hr, ho⟩; exact ⟨v, he, hr, fun b hb => hk b (ho b hb) (hr.lt b hb)⟩
theorem El.ndO_nd {w : World} {ok : Nat → Prop} {n : Nd} {cs : List Value} (h : El.ndO.P w ok n cs) : El.nd.P w ok n cs := by
  obtain ⟨v, he, hr, ho⟩ := h
  obtain ⟨A, c, rfl, _⟩ := hr.slice_
  exact ⟨A, c, he, Rds.of_ints (hr.rd ho)⟩
/-- A row of the call's own; it and what it leads to lie in blocks that are ok. -/
def OwnP {α : Type} (d : El α) (w : World) (e : TypeId) (ok : Nat → Prop) (v : Value) (xs : List α) : Prop :=
  ∃ css : List (List Value), Row w e d.sz v xs.length css.flatten ∧ (∀ b, Fp v b → ok b) ∧ All2 (d.P w fun b => ok b ∧ ¬ Fp v b) xs css
section
variable {α : Type} {d : El α} {w w' : World} {e : TypeId} {ok ok' : Nat → Prop} {v : Value} {xs : List α}
theorem OwnP.nil (d : El α) (w : World) (e : TypeId) (ok : Nat → Prop) : OwnP d w e ok (.slice none 0 0) [] := ⟨[], Row.nil _ _ _, fun _ h => (Fp_none h).elim, .nil⟩
theorem OwnP.slice_ (h : OwnP d w e ok v xs) : ∃ A c, v = .slice A xs.length c := by
  obtain ⟨_, h1, _⟩ := h
  obtain ⟨A, c, he, _⟩ := h1.slice_
  exact ⟨A, c, he⟩
theorem OwnP.mono (h : OwnP d w e ok v xs) (hk : ∀ b, ok b → b < w.heap.size → ok' b) : OwnP d w e ok' v xs := by
  obtain ⟨css, h1, h2, h3⟩ := h
  exact ⟨css, h1, fun b hb => hk b (h2 b hb) (h1.lt b hb), forall2_imp (fun _ _ h => d.mono (fun b hb hlt => ⟨hk b hb.1 hlt, hb.2⟩) h) h3⟩
theorem OwnP.move (h : OwnP d w e ok v xs) (hk : ∀ b, ok b → b < w.heap.size → w'.heap[b]? = w.heap[b]?) : OwnP d w' e ok v xs := by
  obtain ⟨css, h1, h2, h3⟩ := h
  exact ⟨css, h1.keep (fun b hb => hk b (h2 b hb) (h1.lt b hb)), h2, forall2_imp (fun _ _ h => d.move (fun b hb hlt => hk b hb.1 hlt) h) h3⟩
theorem OwnP.below (h : OwnP d w e ok v xs) (hb : Below w.heap.size w w') : OwnP d w' e ok v xs := h.move fun b _ hlt => hb.block b hlt
theorem OwnP.only {ok2 : Nat → Prop} (h : OwnP d w e ok v xs) (ho : Only ok2 w w') (hk : ∀ b, ok b → ok2 b → False) : OwnP d w' e ok v xs := h.move fun b hb hlt => ho.block b hlt (fun h' => hk b hb h')
theorem OwnP.rds (h : OwnP d w e ok v xs) : Rds d w ok v xs := by
  obtain ⟨css, h1, h2, h3⟩ := h
  exact ⟨css, h1.rd h2, forall2_imp (fun _ _ h => d.mono (fun b hb _ => hb.1) h) h3⟩
theorem OwnP.lt (h : OwnP d w e ok v xs) : ∀ b, Fp v b → b < w.heap.size := by
  obtain ⟨_, h1, _⟩ := h
  exact h1.lt
theorem OwnP.fp (h : OwnP d w e ok v xs) : ∀ b, Fp v b → ok b := by
  obtain ⟨_, _, h2, _⟩ := h
  exact h2
/-- Behind an append. -/
theorem OwnP.grown {v' : Value} {ys : List α} {css dss : List (List Value)} {m : Nat} (h2 : ∀ b, Fp v b → ok b) (h3 : All2 (d.P w fun b => ok b ∧ ¬ Fp v b) xs css) (hy : All2 (d.P w fun b => ok b ∧ ¬ Fp v b) ys dss)
    (hrow : Row w' e d.sz v' m (css.flatten ++ dss.flatten)) (hm : m = (xs ++ ys).length) (ho : Only (Fp v) w w') (hf : ∀ b, Fp v' b → Fp v b ∨ w.heap.size ≤ b) (hnew : ∀ b, w.heap.size ≤ b → ok b) : OwnP d w' e ok v' (xs ++ ys) := by
  subst hm
  have go : ∀ {zs : List α} {ess : List (List Value)}, All2 (d.P w fun b => ok b ∧ ¬ Fp v b) zs ess → All2 (d.P w' fun b => ok b ∧ ¬ Fp v' b) zs ess := fun h =>
    forall2_imp (fun _ _ h => by
      have h' := d.mono (ok' := fun b => (ok b ∧ ¬ Fp v b) ∧ b < w.heap.size) (fun b h1 h2 => ⟨h1, h2⟩) h
      have h'' := d.move (w' := w') (fun b hb hlt => ho.block b hlt hb.1.2) h'
      refine d.mono (fun b hb _ => ⟨hb.1.1, fun hfv => ?_⟩) h''
      rcases hf b hfv with h3 | h3
      · exact hb.1.2 h3
      · exact absurd hb.2 (Nat.not_lt.2 h3)) h
  exact ⟨css ++ dss, by rw [flatten_app]; exact hrow, fun b hb => (hf b hb).elim (h2 b) (hnew b), forall2_app (go hy) (go h3)⟩
end
theorem Rds.to_nd {w : World} {ok : Nat → Prop} {v : Value} {xs : List Nd} (h : Rds El.ndO w ok v xs) : Rds El.nd w ok v xs := Rds.swap (d := El.ndO) (e := El.nd) rfl (fun _ _ _ hh => El.ndO_nd hh) h
/-- By types: none of a tree's blocks is of another type. -/
theorem OwnP.types {w : World} {ok : Nat → Prop} {v : Value} {xs : List Nd} {g t : Nat} {cs : Array Value} {fr : Nat × Nat} (h : OwnP El.ndO w 76 ok v xs) (hg : w.heap[g]? = some (.cells cs t fr)) (h1 : 76 ≠ t) (h2 : 3 ≠ t) : OwnP El.ndO w 76 (fun b => ok b ∧ b ≠ g) v xs := by
  obtain ⟨css, a, b, c⟩ := h
  refine ⟨css, a, fun k hk => ⟨b k hk, fun e => a.ne_ hg h1 (e ▸ hk)⟩, forall2_imp (fun _ _ hn => ?_) c⟩
  obtain ⟨u, he, hr, ho⟩ := hn
  exact ⟨u, he, hr, fun k hk => ⟨⟨(ho k hk).1, fun e => hr.ne_ hg h2 (e ▸ hk)⟩, (ho k hk).2⟩⟩
theorem OwnP.poke {w : World} {ok : Nat → Prop} {v : Value} {xs : List Nd} {g t i : Nat} {cs : Array Value} {fr : Nat × Nat} (h : OwnP El.ndO w 76 ok v xs) (hg : w.heap[g]? = some (.cells cs t fr)) (h1 : 76 ≠ t) (h2 : 3 ≠ t) (u : Value) : OwnP El.ndO (w.setCell ⟨g, i, none⟩ u) 76 ok v xs :=
  ((h.types hg h1 h2).move (w' := w.setCell ⟨g, i, none⟩ u) (fun b hb _ => Below.heap_setCell w ⟨g, i, none⟩ u b hb.2)).mono fun _ hb _ => hb.1
theorem box_only {w w' : World} {ok : Nat → Prop} {g : Nat} {o : Obj} (h : w.heap[g]? = some o) (ho : Only ok w w') (hn : ¬ ok g) : w'.heap[g]? = some o := (ho.block g (blk_lt h) hn).trans h
theorem box_same {w w' : World} {g : Nat} {o : Obj} (h : w.heap[g]? = some o) (hb : Below w.heap.size w w') : w'.heap[g]? = some o := (hb.block g (blk_lt h)).trans h
/-- One element in a block of its own. -/
theorem rd_block {w : World} {g t : Nat} {cs : List Value} {sz : Nat} (h : w.heap[g]? = some (.cells cs.toArray t (0, 0))) (hs : cs.length = sz) : Rd w (fun _ => True) sz (.slice (some ⟨g, 0, none⟩) 1 1) 1 cs := by
  refine ⟨by rw [hs, Nat.one_mul], _, _, rfl, Nat.le_refl _, fun _ => ⟨_, rfl, trivial, fun j u hu => ?_⟩⟩
  rw [add_at, Nat.zero_add, blk_cell h j]
  simpa using hu

/-- A node of a row, seen from a later world. -/
theorem Rds.nd_at {w w' : World} {ok : Nat → Prop} {A : Option Addr} {n c : Nat} {xs : List Nd} (h : Rds El.nd w ok (.slice A n c) xs) (hB : Below w.heap.size w w') {i : Nat} {x : Nd} (hx : xs[i]? = some x) :
    ∃ ad K kc, A = some ad ∧ w'.cell? (ad.add (i * 3)) = some (.int .u8 x.op) ∧ w'.cell? ⟨(ad.add (i * 3)).block, (ad.add (i * 3)).off + 1, none⟩ = some (.int .i64 x.pl) ∧ w'.cell? ⟨(ad.add (i * 3)).block, (ad.add (i * 3)).off + 2, none⟩ = some (.slice K x.kids.length kc) ∧ Rds El.int w ok (.slice K x.kids.length kc) x.kids := by
  obtain ⟨hi, rfl⟩ := List.getElem?_eq_some_iff.1 hx
  obtain ⟨ad, K, kc, hA, -, -, x0, x1, x2, hk⟩ := h.nd i hi
  exact ⟨ad, K, kc, hA, (hB.cell (World.block_lt_of_cell? w _ x0)).trans x0, (hB.cell (p := ⟨(ad.add (i * 3)).block, (ad.add (i * 3)).off + 1, none⟩) (World.block_lt_of_cell? w _ x1)).trans x1, (hB.cell (p := ⟨(ad.add (i * 3)).block, (ad.add (i * 3)).off + 2, none⟩) (World.block_lt_of_cell? w _ x2)).trans x2, hk⟩

/-! ### append, of a node, of an integer, of a tree -/
section
variable {ops : Array Oper} {rest : List Oper} {o : Oper} {a : Act} {Q : Exit → Act → World → Prop} {K : Act → World → Prop}
theorem wp_append_nd (w : World) (s x : Operand) (ho : o.op = .call { callee := .builtin .append, args := #[s, x], argTypes := #[57, 57] })
    (ok : Nat → Prop) (A : Option Addr) (n c : Nat) (xs : List Nd) (hs : a.eval s = .slice A n c) (hxn : xs.length = n) (hown : OwnP El.ndO w 76 ok (.slice A n c) xs)
    (g : Nat) (op pl : Int) (kids : List Int) (kv : Value) (hx : a.eval x = .slice (some ⟨g, 0, none⟩) 1 1) (hg : w.heap[g]? = some (.cells #[.int .u8 op, .int .i64 pl, kv] 76 (0, 0)))
    (hk : Row w 3 1 kv kids.length (ints kids)) (hkok : ∀ b, Fp kv b → ok b) (hnew : ∀ b, w.heap.size ≤ b → ok b) (hn : n ≤ 2000000)
    (h : ∀ A' c' w', OwnP El.ndO w' 76 ok (.slice A' (n + 1) c') (xs ++ [⟨op, pl, kids⟩]) → Only (Fp (.slice A n c)) w w' → (∀ b, Fp (.slice A' (n + 1) c') b → Fp (.slice A n c) b ∨ w.heap.size ≤ b) → K (a.put o.dst (.slice A' (n + 1) c')) w') : o.wp Try.prog a w K Q := by
  subst hxn
  obtain ⟨css, h1, h2, h3⟩ := hown
  have hne : ∀ b, Fp kv b → ¬ Fp (.slice A xs.length c) b := fun b hb hb' => by
    obtain ⟨cur, hc⟩ := hk.typed hb
    exact h1.ne_ hc (by decide) hb'
  have hone : ∀ x ∈ ([.int .u8 op, .int .i64 pl, kv] : List Value), x.oneCell' = true := by
    obtain ⟨K, kc, rfl, _⟩ := hk.slice_
    intro u hu
    simp at hu
    rcases hu with rfl | rfl | rfl <;> rfl
  refine wp_append_row (P := Try.prog) w s x 57 76 ho _ 3 40 Try.underlying57 inf76 rfl (by decide) (by decide) (.slice A xs.length c) xs.length css.flatten hs h1 (fun _ => True) _ 1 [.int .u8 op, .int .i64 pl, kv] hx (rd_block (cs := [.int .u8 op, .int .i64 pl, kv]) hg rfl) hone (by omega) ?_
  intro A' c' w' hrow honly hfp
  refine h A' c' w' (OwnP.grown (m := xs.length + 1) (ys := [⟨op, pl, kids⟩]) (dss := [[.int .u8 op, .int .i64 pl, kv]]) h2 h3 (.cons ⟨kv, rfl, hk, fun b hb => ⟨hkok b hb, hne b hb⟩⟩ .nil) ?_ (by simp) honly hfp hnew) honly hfp
  have e : ([[Value.int .u8 op, .int .i64 pl, kv]] : List (List Value)).flatten = [.int .u8 op, .int .i64 pl, kv] := rfl
  rw [e]
  exact hrow
theorem wpList_append_nd (w : World) (hgd : o.guard = none) (s x : Operand) (ho : o.op = .call { callee := .builtin .append, args := #[s, x], argTypes := #[57, 57] })
    (ok : Nat → Prop) (A : Option Addr) (n c : Nat) (xs : List Nd) (hs : a.eval s = .slice A n c) (hxn : xs.length = n) (hown : OwnP El.ndO w 76 ok (.slice A n c) xs)
    (g : Nat) (op pl : Int) (kids : List Int) (kv : Value) (hx : a.eval x = .slice (some ⟨g, 0, none⟩) 1 1) (hg : w.heap[g]? = some (.cells #[.int .u8 op, .int .i64 pl, kv] 76 (0, 0)))
    (hk : Row w 3 1 kv kids.length (ints kids)) (hkok : ∀ b, Fp kv b → ok b) (hnew : ∀ b, w.heap.size ≤ b → ok b) (hn : n ≤ 2000000)
    (h : ∀ A' c' w', OwnP El.ndO w' 76 ok (.slice A' (n + 1) c') (xs ++ [⟨op, pl, kids⟩]) → Only (Fp (.slice A n c)) w w' → (∀ b, Fp (.slice A' (n + 1) c') b → Fp (.slice A n c) b ∨ w.heap.size ≤ b) → wpList Try.prog ops Q rest (a.put o.dst (.slice A' (n + 1) c')) w') : wpList Try.prog ops Q (o :: rest) a w :=
  wpList_plain hgd fun _ hK => wp_append_nd w s x ho ok A n c xs hs hxn hown g op pl kids kv hx hg hk hkok hnew hn fun A' c' w' h2 h3 h4 => hK _ _ (h A' c' w' h2 h3 h4)
theorem step_append_nd (w : World) {E : Prop} (hgd : o.guard = none) (s x : Operand) (ho : o.op = .call { callee := .builtin .append, args := #[s, x], argTypes := #[57, 57] })
    (ok : Nat → Prop) (A : Option Addr) (n c : Nat) (xs : List Nd) (hs : a.eval s = .slice A n c) (hxn : xs.length = n) (hown : OwnP El.ndO w 76 ok (.slice A n c) xs)
    (g : Nat) (op pl : Int) (kids : List Int) (kv : Value) (hx : a.eval x = .slice (some ⟨g, 0, none⟩) 1 1) (hg : w.heap[g]? = some (.cells #[.int .u8 op, .int .i64 pl, kv] 76 (0, 0)))
    (hk : Row w 3 1 kv kids.length (ints kids)) (hkok : ∀ b, Fp kv b → ok b) (hnew : ∀ b, w.heap.size ≤ b → ok b) (hn : n ≤ 2000000)
    (h : ∀ A' c' w', OwnP El.ndO w' 76 ok (.slice A' (n + 1) c') (xs ++ [⟨op, pl, kids⟩]) → Only (Fp (.slice A n c)) w w' → (∀ b, Fp (.slice A' (n + 1) c') b → Fp (.slice A n c) b ∨ w.heap.size ≤ b) → K (a.put o.dst (.slice A' (n + 1) c')) w') :
    if Region.wanted o (yielded ops a.tmps) = true then Oper.wp Try.prog o a w K Q else E := by
  have hw : Region.wanted o (yielded ops a.tmps) = true := by simp [Region.wanted, hgd]
  rw [if_pos hw]
  exact wp_append_nd w s x ho ok A n c xs hs hxn hown g op pl kids kv hx hg hk hkok hnew hn h
theorem wpList_append_int (w : World) (hgd : o.guard = none) (s x : Operand) (ho : o.op = .call { callee := .builtin .append, args := #[s, x], argTypes := #[36, 36] })
    (A : Option Addr) (n c : Nat) (xs : List Int) (hs : a.eval s = .slice A n c) (hown : Row w 3 1 (.slice A n c) n (ints xs))
    (g : Nat) (y : Int) (hx : a.eval x = .slice (some ⟨g, 0, none⟩) 1 1) (hg : w.heap[g]? = some (.cells #[.int .i64 y] 3 (0, 0))) (hn : n ≤ 2000000)
    (h : ∀ A' c' w', Row w' 3 1 (.slice A' (n + 1) c') (n + 1) (ints (xs ++ [y])) → Only (Fp (.slice A n c)) w w' → (∀ b, Fp (.slice A' (n + 1) c') b → Fp (.slice A n c) b ∨ w.heap.size ≤ b) → wpList Try.prog ops Q rest (a.put o.dst (.slice A' (n + 1) c')) w') : wpList Try.prog ops Q (o :: rest) a w :=
  wpList_append_row (P := Try.prog) w hgd s x 36 3 ho _ 1 8 Try.underlying36 inf3 rfl (by decide) (by decide) (.slice A n c) n (ints xs) hs hown (fun _ => True) _ 1 [.int .i64 y] hx (rd_block (cs := [.int .i64 y]) hg rfl) (by intro u hu; rw [List.mem_singleton] at hu; subst hu; rfl) (by omega)
    fun A' c' w' h1 h2 h3 => h A' c' w' (by rw [ints_append]; exact h1) h2 h3
end
end Go.Proofs.Ytbobjecjopmnfaa
