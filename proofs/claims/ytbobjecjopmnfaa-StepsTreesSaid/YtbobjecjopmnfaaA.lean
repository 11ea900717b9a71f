/- Words for rows of cells in memory: a slice value that reads as a list of cells and owns its block; what a step may turn. -/
import Derived.Test.YtbobjecjopmnfaaProg
import Derived.WalkKit
import Derived.KernelRfl
import Derived.ArgAppend
import Derived.Maps.AppendAt
import Derived.Deep.Draws
namespace Go.Proofs.Ytbobjecjopmnfaa
open Go.RowKit

theorem add_at (g o j : Nat) : (⟨g, o, none⟩ : Addr).add j = ⟨g, o + j, none⟩ := by unfold Addr.add; split <;> simp_all

theorem add_add (a : Addr) (i j : Nat) : (a.add i).add j = a.add (i + j) := by
  unfold Addr.add
  by_cases hi : i = 0 <;> by_cases hj : j = 0 <;> simp [hi, hj, Nat.add_assoc]

theorem add_block (a : Addr) (j : Nat) : (a.add j).block = a.block := by unfold Addr.add; split <;> rfl

theorem hide {p : Prop} (h : p) : Hid p := h
/-- Only what is 'ok' may have turned; blocks may be new. -/
structure Only (ok : Nat → Prop) (w w' : World) : Prop where
  os : w'.os = w.os
  tape : w'.tape = w.tape
  output : w'.output = w.output
  size : w.heap.size ≤ w'.heap.size
  block : ∀ b, b < w.heap.size → ¬ ok b → w'.heap[b]? = w.heap[b]?

section
variable {ok ok' : Nat → Prop} {w w' w'' : World}
theorem Only.refl (ok : Nat → Prop) (w : World) : Only ok w w := ⟨rfl, rfl, rfl, Nat.le_refl _, fun _ _ _ => rfl⟩
theorem Only.trans (h : Only ok w w') (k : Only ok' w' w'') (hk : ∀ b, ok' b → ok b ∨ w.heap.size ≤ b) : Only ok w w'' :=
  ⟨k.os.trans h.os, k.tape.trans h.tape, k.output.trans h.output, Nat.le_trans h.size k.size, fun b hb hn => by
    refine (k.block b (Nat.lt_of_lt_of_le hb h.size) (fun h' => ?_)).trans (h.block b hb hn)
    rcases hk b h' with h1 | h1
    · exact hn h1
    · omega⟩
theorem Only.mono (h : Only ok w w') (hk : ∀ b, b < w.heap.size → ok b → ok' b) : Only ok' w w' := ⟨h.os, h.tape, h.output, h.size, fun b hb hn => h.block b hb (fun h' => hn (hk b hb h'))⟩
theorem Only.of_below (h : Below w.heap.size w w') (ok : Nat → Prop) : Only ok w w' := ⟨h.os, h.tape, h.output, h.size, fun b hb _ => h.block b hb⟩
theorem Only.below {B : Nat} (h : Only ok w w') (hk : ∀ b, ok b → B ≤ b) (hB : B ≤ w.heap.size) : Below B w w' :=
  ⟨h.os, h.tape, h.output, h.size, fun b hb => h.block b (by omega) (fun h' => by have := hk b h'; omega)⟩
theorem Only.drew (h : Only ok w w') : Only ok w w'.drew := ⟨h.os, h.tape, h.output, h.size, h.block⟩
theorem Only.drewN (h : Only ok w w') (n : Nat) : Only ok w (w'.drewN n) := ⟨h.os, h.tape, h.output, h.size, h.block⟩
theorem Only.alloc (h : Only ok w w') (o : Obj) : Only ok w (w'.alloc o) :=
  h.trans (ok' := fun _ => False) ⟨rfl, rfl, rfl, by simp, fun k hk _ => Below.heap_alloc _ _ _ hk⟩ (fun _ h => h.elim)
theorem Only.setCell (h : Only ok w w') {p : Addr} (hp : ok p.block ∨ w.heap.size ≤ p.block) (u : Value) : Only ok w (w'.setCell p u) :=
  h.trans (ok' := fun b => b = p.block) ⟨rfl, rfl, rfl, by simp [World.setCell], fun k _ hn => Below.heap_setCell _ _ _ _ hn⟩ (fun b hb => by subst hb; exact hp)
theorem Only.of_grown {row : Option Nat} (h : w.grownBy w' row) : Only (fun b => some b = row) w w' := ⟨h.os, h.tape, h.output, h.size, fun b hb hn => h.block b hb hn⟩
end

/-- The block that a slice value with room reaches. -/
def Fp (v : Value) (b : Nat) : Prop := ∃ a n c, v = .slice (some a) n c ∧ 0 < c ∧ a.block = b
def Apart (v u : Value) : Prop := ∀ b, Fp v b → Fp u b → False

/-- The slice value v, of n elements (type e, sz cells each), owns its block from its place to the end, and holds the cells xs. -/
def Row (w : World) (e : TypeId) (sz : Nat) (v : Value) (n : Nat) (xs : List Value) : Prop :=
  xs.length = n * sz ∧ ∃ A c, v = .slice A n c ∧ n ≤ c ∧ (0 < c → ∃ g off cur, A = some ⟨g, off * sz, none⟩ ∧ w.heap[g]? = some (.cells cur e (0, 0)) ∧ off + c ≤ maxLen ∧ cur.size = (off + c) * sz ∧ (cur.toList.drop (off * sz)).take (n * sz) = xs)

/-- A slice value that reads as the cells xs; its cells lie in blocks that are ok. -/
def Rd (w : World) (ok : Nat → Prop) (sz : Nat) (v : Value) (n : Nat) (xs : List Value) : Prop :=
  xs.length = n * sz ∧ ∃ A c, v = .slice A n c ∧ n ≤ c ∧ (0 < n → ∃ ad, A = some ad ∧ ok ad.block ∧ ∀ j u, xs[j]? = some u → w.cell? (ad.add j) = some u)

section
variable {w w' : World} {e : TypeId} {sz n : Nat} {v : Value} {xs : List Value} {ok ok' : Nat → Prop}
theorem Row.nil (w : World) (e : TypeId) (sz : Nat) : Row w e sz (.slice none 0 0) 0 [] := ⟨by simp, none, 0, rfl, Nat.le_refl _, fun h => absurd h (by omega)⟩
theorem Row.empty (w : World) (e : TypeId) (sz : Nat) (A : Option Addr) : Row w e sz (.slice A 0 0) 0 [] := ⟨by simp, A, 0, rfl, Nat.le_refl _, fun h => absurd h (by omega)⟩
theorem Row.keep (h : Row w e sz v n xs) (hk : ∀ b, Fp v b → w'.heap[b]? = w.heap[b]?) : Row w' e sz v n xs := by
  obtain ⟨h1, A, c, rfl, h3, h4⟩ := h
  refine ⟨h1, A, c, rfl, h3, fun hc => ?_⟩
  obtain ⟨g, off, cur, rfl, h5, r⟩ := h4 hc
  exact ⟨g, off, cur, rfl, (hk g ⟨_, _, _, rfl, hc, rfl⟩).trans h5, r⟩
theorem Row.lt (h : Row w e sz v n xs) : ∀ b, Fp v b → b < w.heap.size := by
  obtain ⟨h1, A, c, rfl, h3, h4⟩ := h
  rintro b ⟨a, m, c', he, hc, rfl⟩
  injection he with h5 h6 h7
  subst h7
  obtain ⟨g, off, cur, hA, h5', r⟩ := h4 hc
  rw [hA] at h5
  injection h5 with h5
  subst h5
  exact (Array.getElem?_eq_some_iff.1 h5').1
theorem Row.typed (h : Row w e sz v n xs) {b : Nat} (hb : Fp v b) : ∃ cur, w.heap[b]? = some (.cells cur e (0, 0)) := by
  obtain ⟨h1, A, c, rfl, h3, h4⟩ := h
  obtain ⟨a, m, c', he, hc, rfl⟩ := hb
  injection he with h5 h6 h7
  subst h7
  obtain ⟨g, off, cur, hA, h5', r⟩ := h4 hc
  rw [hA] at h5
  injection h5 with h5
  subst h5
  exact ⟨cur, h5'⟩
theorem Row.only (h : Row w e sz v n xs) (ho : Only ok w w') (hk : ∀ b, Fp v b → ok b → False) : Row w' e sz v n xs :=
  h.keep (fun b hb => ho.block b (h.lt b hb) (fun h' => hk b hb h'))
theorem Row.below (h : Row w e sz v n xs) (hb : Below w.heap.size w w') : Row w' e sz v n xs := h.keep (fun b h' => hb.block b (h.lt b h'))
theorem Row.alloc (h : Row w e sz v n xs) (o : Obj) : Row (w.alloc o) e sz v n xs := h.below ((Below.refl _ _).alloc (Nat.le_refl _) o)
theorem Row.drew (h : Row w e sz v n xs) : Row w.drew e sz v n xs := h
theorem Row.drewN (h : Row w e sz v n xs) (k : Nat) : Row (w.drewN k) e sz v n xs := h
theorem Row.setCell (h : Row w e sz v n xs) {p : Addr} (hp : ¬ Fp v p.block) (u : Value) : Row (w.setCell p u) e sz v n xs :=
  h.keep (fun b hb => Below.heap_setCell w p u b (fun e => hp (e ▸ hb)))
/-- A block of another type is none of a row's. -/
theorem Row.ne_ (h : Row w e sz v n xs) {g t : Nat} {cs : Array Value} {fr : Nat × Nat} (hg : w.heap[g]? = some (.cells cs t fr)) (hne : e ≠ t) : ¬ Fp v g := by
  intro hf
  obtain ⟨cur, hc⟩ := h.typed hf
  rw [hg] at hc
  injection hc with hc
  injection hc with _ ht
  exact hne ht.symm
theorem Row.slice_ (h : Row w e sz v n xs) : ∃ A c, v = .slice A n c ∧ n ≤ c := by
  obtain ⟨_, A, c, rfl, h3, _⟩ := h
  exact ⟨A, c, rfl, h3⟩
theorem Row.max (h : Row w e sz v n xs) : n ≤ 9223372036854775807 := by
  obtain ⟨_, A, c, rfl, h3, h4⟩ := h
  rcases Nat.eq_zero_or_pos c with h0 | h0
  · omega
  · obtain ⟨g, off, cur, _, _, h5, _⟩ := h4 h0
    simp only [maxLen] at h5
    omega
theorem Row.rd (h : Row w e sz v n xs) (hok : ∀ b, Fp v b → ok b) : Rd w ok sz v n xs := by
  obtain ⟨h1, A, c, rfl, h3, h4⟩ := h
  refine ⟨h1, A, c, rfl, h3, fun hn => ?_⟩
  obtain ⟨g, off, cur, rfl, h5, _, h7, h8⟩ := h4 (by omega)
  refine ⟨_, rfl, hok g ⟨_, _, _, rfl, by omega, rfl⟩, fun j u hu => ?_⟩
  rw [add_at, cell_of_row w g _ cur e (0, 0) h5]
  rw [← h8, List.getElem?_take] at hu
  split at hu
  · rw [List.getElem?_drop] at hu
    rw [← Array.getElem?_toList]
    exact hu
  · cases hu
theorem Rd.keep (h : Rd w ok sz v n xs) (hk : ∀ b, ok b → b < w.heap.size → w'.heap[b]? = w.heap[b]?) : Rd w' ok sz v n xs := by
  obtain ⟨h1, A, c, rfl, h3, h4⟩ := h
  refine ⟨h1, A, c, rfl, h3, fun hn => ?_⟩
  obtain ⟨ad, rfl, h5, h6⟩ := h4 hn
  refine ⟨ad, rfl, h5, fun j u hu => ?_⟩
  have h7 := h6 j u hu
  have hlt := World.block_lt_of_cell? w _ h7
  rw [add_block] at hlt
  exact (World.cell?_of_block (by rw [add_block]; exact hk _ h5 hlt)).trans h7
theorem Rd.mono (h : Rd w ok sz v n xs) (hk : ∀ b, ok b → ok' b) : Rd w ok' sz v n xs := by
  obtain ⟨h1, A, c, rfl, h3, h4⟩ := h
  refine ⟨h1, A, c, rfl, h3, fun hn => ?_⟩
  obtain ⟨ad, rfl, h5, h6⟩ := h4 hn
  exact ⟨ad, rfl, hk _ h5, h6⟩
theorem Rd.below (h : Rd w ok sz v n xs) (hb : Below w.heap.size w w') : Rd w' ok sz v n xs := h.keep (fun b _ hlt => hb.block b hlt)
theorem Rd.only {ok2 : Nat → Prop} (h : Rd w ok sz v n xs) (ho : Only ok2 w w') (hk : ∀ b, ok b → ok2 b → False) : Rd w' ok sz v n xs :=
  h.keep (fun b hb hlt => ho.block b hlt (fun h' => hk b hb h'))
theorem Rd.nil (w : World) (ok : Nat → Prop) (sz : Nat) : Rd w ok sz (.slice none 0 0) 0 [] := ⟨by simp, none, 0, rfl, Nat.le_refl _, fun h => absurd h (by omega)⟩
theorem Rd.slice_ (h : Rd w ok sz v n xs) : ∃ A c, v = .slice A n c ∧ n ≤ c := by
  obtain ⟨_, A, c, rfl, h3, _⟩ := h
  exact ⟨A, c, rfl, h3⟩
end

/-! ### What a run of cells written leaves -/
theorem blk_set {w : World} {g : Nat} {t : TypeId} {cs : Array Value} (h : w.heap[g]? = some (.cells cs t (0, 0))) (i : Nat) (u : Value) : (w.setCell ⟨g, i, none⟩ u).heap[g]? = some (.cells (cs.setIfInBounds i u) t (0, 0)) := by
  simp [World.setCell, Array.getElem?_modify, h]
theorem blk_cell {w : World} {g : Nat} {t : TypeId} {cs : Array Value} (h : w.heap[g]? = some (.cells cs t (0, 0))) (i : Nat) : w.cell? ⟨g, i, none⟩ = cs[i]? := cell_of_row w g i cs t (0, 0) h
theorem blk_frozen {w : World} {g : Nat} {t : TypeId} {cs : Array Value} (h : w.heap[g]? = some (.cells cs t (0, 0))) (i : Nat) : w.frozen? ⟨g, i, none⟩ = false := by simp [World.frozen?, h]
theorem blk_lt {w : World} {g : Nat} {o : Obj} (h : w.heap[g]? = some o) : g < w.heap.size := (Array.getElem?_eq_some_iff.1 h).1
theorem blk_far {w : World} {g : Nat} {o : Obj} (h : w.heap[g]? = some o) {p : Addr} (hp : g ≠ p.block) (u : Value) : (w.setCell p u).heap[g]? = some o := (Below.heap_setCell w p u g hp).trans h
theorem blk_alloc {w : World} {g : Nat} {o : Obj} (h : w.heap[g]? = some o) (o' : Obj) : (w.alloc o').heap[g]? = some o := (Below.heap_alloc w o' g (blk_lt h)).trans h
theorem setCells_far {g : Nat} : ∀ (vs : List Value) (o : Nat) {w : World} (k : Nat), k ≠ g → (w.setCells g o vs).heap[k]? = w.heap[k]?
  | [], _, _, _, _ => rfl
  | v :: r, o, w, k, hk => by
    rw [World.setCells, setCells_far r (o + 1) k hk]
    exact Below.heap_setCell w ⟨g, o, none⟩ v k hk
theorem setCells_same (g : Nat) : ∀ (vs : List Value) (o : Nat) (w : World), (w.setCells g o vs).os = w.os ∧ (w.setCells g o vs).tape = w.tape ∧ (w.setCells g o vs).output = w.output ∧ (w.setCells g o vs).heap.size = w.heap.size
  | [], _, _ => ⟨rfl, rfl, rfl, rfl⟩
  | v :: r, o, w => by
    obtain ⟨h1, h2, h3, h4⟩ := setCells_same g r (o + 1) (w.setCell ⟨g, o, none⟩ v)
    rw [World.setCells]
    exact ⟨h1, h2, h3, by rw [h4]; simp [World.setCell]⟩
theorem setCells_row {g : Nat} {e : TypeId} : ∀ (vs : List Value) (o : Nat) (w : World) (cur : Array Value), w.heap[g]? = some (.cells cur e (0, 0)) → o + vs.length ≤ cur.size →
    ∃ cur', (w.setCells g o vs).heap[g]? = some (.cells cur' e (0, 0)) ∧ cur'.size = cur.size ∧ cur'.toList = cur.toList.take o ++ vs ++ cur.toList.drop (o + vs.length)
  | [], o, w, cur, h, _ => ⟨cur, h, rfl, by simp⟩
  | v :: r, o, w, cur, h, hl => by
    have h2 := blk_set h o v
    simp only [List.length_cons] at hl
    obtain ⟨cur', h3, h4, h5⟩ := setCells_row r (o + 1) (w.setCell ⟨g, o, none⟩ v) _ h2 (by simp; omega)
    refine ⟨cur', h3, by rw [h4]; simp, ?_⟩
    rw [h5, Array.toList_setIfInBounds]
    have ho : o < cur.toList.length := by rw [Array.length_toList]; omega
    rw [List.take_set, List.drop_set_of_lt (by omega)]
    simp only [List.length_cons]
    rw [show o + 1 + r.length = o + (r.length + 1) by omega]
    congr 1
    rw [List.take_succ_eq_append_getElem ho, List.set_append_right _ _ (by rw [List.length_take]; omega)]
    have ho' : o < cur.size := by omega
    simp [Nat.min_eq_left (Nat.le_of_lt ho')]

/-- The row's new place is its old one, or new memory. -/
theorem Row.of_own {w : World} {base : Nat} {e : TypeId} {sz n : Nat} {v : Value} {xs : List Value} (h : w.ownsRow base e sz v n xs) : Row w e sz v n xs ∧ ∀ b, Fp v b → base ≤ b := by
  obtain ⟨h1, h2⟩ := h
  rcases h2 with ⟨rfl, rfl⟩ | ⟨g, cap, cur, rfl, hb, hh, hnc, hcm, hcs, ht⟩
  · refine ⟨⟨h1, none, 0, rfl, Nat.le_refl _, fun h => absurd h (by omega)⟩, ?_⟩
    rintro b ⟨a, n, c, he, _⟩
    cases he
  · refine ⟨⟨h1, _, cap, rfl, hnc, fun _ => ⟨g, 0, cur, by simp, hh, by simpa using hcm, by simpa using hcs, by simpa using ht⟩⟩, ?_⟩
    rintro b ⟨a, n, c, he, _, rfl⟩
    injection he with he
    injection he with he
    subst he
    exact hb

section
variable {P : Program}
/-- append(v, src...), whatever the source: the row grows, in its place or in new memory. -/
theorem run_append_row (w : World) (t ty e : TypeId) (i : TypeInfo) (z : Value) (sz bytes : Nat) (ht : P.underlying t = some (.slice e)) (hi : P.info? e = some i) (hz : i.zero = some z)
    (hsize : i.size = sz) (hby : i.bytes = bytes) (hzs : z.cells.size = sz) (hsz : 0 < sz)
    (v : Value) (n : Nat) (xs : List Value) (hown : Row w e sz v n xs) (ok : Nat → Prop)
    (u : Value) (m : Nat) (news : List Value) (hr : Rd w ok sz u m news) (h1 : ∀ x ∈ news, x.oneCell' = true)
    (h63 : n + m ≤ maxLen) (hbytes : (n + m) * bytes ≤ 140737488355328) :
    ∃ v' w', (Builtin.append_ #[t, t] ty #[v, u]).run P w = .ok v' w' ∧ Row w' e sz v' (n + m) (xs ++ news) ∧ Only (Fp v) w w' ∧ (∀ b, Fp v' b → Fp v b ∨ w.heap.size ≤ b) := by
  subst hsize
  obtain ⟨hl, B, cu, rfl, hmc, hsrc⟩ := hr
  obtain ⟨hxl, A, c, rfl, hnc, hrow⟩ := hown
  have hlen : (xs ++ news).length = (n + m) * i.size := by rw [List.length_append, hxl, hl, Nat.add_mul]
  by_cases hroom : n + m ≤ c
  · -- in its place
    rcases Nat.eq_zero_or_pos m with hm | hm
    · subst hm
      have hn : news = [] := List.eq_nil_of_length_eq_zero (by simpa using hl)
      subst hn
      refine ⟨.slice A n c, w, ?_, by rw [Nat.add_zero, List.append_nil]; exact ⟨hxl, A, c, rfl, hnc, hrow⟩, Only.refl _ _, fun b hb => .inl hb⟩
      cases A <;> cases B <;> simp [Builtin.append_, run_underlying ht, sizeOf, typeInfo, hi, Builtin.lenOf, hnc, Builtin.firstCells, loadCells, loadCellsFrom, storeCells]
    · obtain ⟨ad, rfl, _, hcells⟩ := hsrc hm
      obtain ⟨g, off, cur, rfl, hg, hcm, hcs, htake⟩ := hrow (by omega)
      have hfit : off * i.size + n * i.size + news.length ≤ cur.size := by
        rw [hl, hcs, ← Nat.add_mul, ← Nat.add_mul]
        exact Nat.mul_le_mul_right _ (by omega)
      have hr := run_append_room_cells (P := P) (w := w) t ty e i ht hi g (off * i.size) n c ad m cu news hl hcells h1 hroom
        (fun j hj => by rw [cell_of_row w g _ cur e (0, 0) hg]; simp; omega) (fun j _ => blk_frozen hg _)
      obtain ⟨cur', h3, h4, h5⟩ := setCells_row news (off * i.size + n * i.size) w cur hg hfit
      obtain ⟨s1, s2, s3, s4⟩ := setCells_same g news (off * i.size + n * i.size) w
      refine ⟨_, _, hr, ⟨hlen, _, c, rfl, hroom, fun _ => ⟨g, off, cur', rfl, h3, hcm, by rw [h4, hcs], ?_⟩⟩, ⟨s1, s2, s3, by rw [s4]; exact Nat.le_refl _, fun k _ hk => setCells_far news _ k (fun he => hk ⟨_, _, _, rfl, by omega, he.symm⟩)⟩, ?_⟩
      · rw [h5, List.append_assoc, List.drop_append_of_le_length (by rw [List.length_take, Array.length_toList]; omega), List.drop_take]
        rw [show off * i.size + n * i.size - off * i.size = n * i.size by omega, htake, ← List.append_assoc]
        exact List.take_left' hlen
      · rintro b ⟨a, n', c', he, hc', rfl⟩
        injection he with he _ hc
        subst hc
        injection he with he
        subst he
        exact .inl ⟨_, _, _, rfl, hc', rfl⟩
  · have hm : 0 < m := by omega
    obtain ⟨ad, rfl, _, hcells⟩ := hsrc hm
    have fin : ∀ v' w', w'.ownsRow w.heap.size e i.size v' (n + m) (xs ++ news) → w.grownBy w' none → Row w' e i.size v' (n + m) (xs ++ news) ∧ Only (Fp (.slice A n c)) w w' ∧ (∀ b, Fp v' b → Fp (.slice A n c) b ∨ w.heap.size ≤ b) := by
      intro v' w' ho hg
      obtain ⟨h2, h3⟩ := Row.of_own ho
      exact ⟨h2, ⟨hg.os, hg.tape, hg.output, hg.size, fun b hb _ => hg.block b hb (by simp)⟩, fun b hb => .inr (h3 b hb)⟩
    rcases A with _ | a
    · have hc0 : c = 0 := by
        rcases Nat.eq_zero_or_pos c with h | h
        · exact h
        · obtain ⟨_, _, _, h', _⟩ := hrow h
          cases h'
      subst hc0
      have hn0 : n = 0 := by omega
      subst hn0
      have hx0 : xs = [] := List.eq_nil_of_length_eq_zero (by simpa using hxl)
      subst hx0
      obtain ⟨v', w', hr, ho, hg, _⟩ := run_append_own (P := P) w w.heap.size t ty e i z i.size bytes ht hi hz rfl hby hzs hsz (.slice none 0 0) 0 [] (World.ownsRow_nil w _ e i.size) ad m cu news hl hcells h1 h63 hbytes (Nat.le_refl _)
      obtain ⟨r1, r2, r3⟩ := fin v' w' ho hg
      exact ⟨v', w', hr, r1, r2, r3⟩
    · have holds : ∀ j u, xs[j]? = some u → w.cell? (a.add j) = some u := by
        intro j u hu
        rcases Nat.eq_zero_or_pos n with h0 | h0
        · subst h0
          have hx0 : xs = [] := List.eq_nil_of_length_eq_zero (by simpa using hxl)
          subst hx0
          simp at hu
        · obtain ⟨g, off, cur, hA, hg, hcm, hcs, htake⟩ := hrow (by omega)
          injection hA with hA
          subst hA
          rw [add_at, cell_of_row w g _ cur e (0, 0) hg]
          rw [← htake, List.getElem?_take] at hu
          split at hu
          · rw [List.getElem?_drop] at hu
            rw [← Array.getElem?_toList]
            exact hu
          · cases hu
      obtain ⟨v', w', hr, ho, hg⟩ := run_append_arg_grows (P := P) (w := w) t ty e i z i.size bytes ht hi hz rfl hby hzs hsz a n c xs hxl holds ad m cu news hl hcells (by omega) h63 hbytes
      obtain ⟨r1, r2, r3⟩ := fin v' w' ho hg
      exact ⟨v', w', hr, r1, r2, r3⟩
end

/-- A cut from k on. -/
theorem Row.drop {w : World} {e : TypeId} {sz n c k : Nat} {A : Option Addr} {xs : List Value} (h : Row w e sz (.slice A n c) n xs) (hk : k ≤ n) :
    Row w e sz (.slice (if c = k then A else A.map (·.add (k * sz))) (n - k) (c - k)) (n - k) (xs.drop (k * sz)) ∧ ∀ b, Fp (.slice (if c = k then A else A.map (·.add (k * sz))) (n - k) (c - k)) b → Fp (.slice A n c) b := by
  obtain ⟨h1, A', c', he, h3, h4⟩ := h
  injection he with e1 _ e3
  subst e1; subst e3
  refine ⟨⟨by rw [List.length_drop, h1, Nat.sub_mul], _, _, rfl, by omega, fun hc => ?_⟩, ?_⟩
  · obtain ⟨g, off, cur, rfl, hg, hm, hs, ht⟩ := h4 (by omega)
    clear h4
    have h9 : off + c = off + k + (c - k) := by omega
    have h10 : off + k + (c - k) ≤ maxLen := h9 ▸ hm
    rw [if_neg (by omega)]
    refine ⟨g, off + k, cur, ?_, hg, h10, h9 ▸ hs, ?_⟩
    · rw [Option.map_some, add_at, Nat.add_mul]
    · rw [← ht, List.drop_take, List.drop_drop, Nat.add_mul, Nat.sub_mul]
  · rintro b ⟨a, n', c', he, hc', rfl⟩
    injection he with e1 _ e3
    subst e3
    rw [if_neg (by omega)] at e1
    cases A with
    | none => cases e1
    | some a0 =>
      injection e1 with e1
      subst e1
      exact ⟨a0, n, c, rfl, by omega, (add_block _ _).symm⟩
/-- A cut up to k. -/
theorem Row.take {w : World} {e : TypeId} {sz n c k : Nat} {A : Option Addr} {xs : List Value} (h : Row w e sz (.slice A n c) n xs) (hk : k ≤ n) :
    Row w e sz (.slice A k c) k (xs.take (k * sz)) ∧ ∀ b, Fp (.slice A k c) b → Fp (.slice A n c) b := by
  obtain ⟨h1, A', c', he, h3, h4⟩ := h
  injection he with e1 _ e3
  subst e1; subst e3
  refine ⟨⟨by rw [List.length_take, h1]; exact Nat.min_eq_left (Nat.mul_le_mul_right _ hk), _, _, rfl, by omega, fun hc => ?_⟩, ?_⟩
  · obtain ⟨g, off, cur, rfl, hg, hm, hs, ht⟩ := h4 hc
    exact ⟨g, off, cur, rfl, hg, hm, hs, by rw [← ht, List.take_take, Nat.min_eq_left (Nat.mul_le_mul_right _ hk)]⟩
  · rintro b ⟨a, n', c', he, hc', rfl⟩
    injection he with e1 _ e3
    subst e3; subst e1
    exact ⟨a, n, c, rfl, by omega, rfl⟩
theorem Apart.symm {v u : Value} (h : Apart v u) : Apart u v := fun b h1 h2 => h b h2 h1
theorem Fp_none {n c b : Nat} (h : Fp (.slice none n c) b) : False := by
  obtain ⟨_, _, _, he, _⟩ := h
  cases he
end Go.Proofs.Ytbobjecjopmnfaa
