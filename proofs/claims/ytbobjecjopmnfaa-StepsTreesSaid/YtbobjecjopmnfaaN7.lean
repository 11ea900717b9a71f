/- The walk of spoil (the statements' 22). -/
import Derived.Test.YtbobjecjopmnfaaK8
namespace Go.Proofs.Ytbobjecjopmnfaa
open Go.RowKit
theorem setcell_block {w : World} {g t : Nat} {cs : Array Value} {fr : Nat × Nat} (p : Addr) (u : Value) (h : w.heap[g]? = some (.cells cs t fr)) : ∃ cs', cs'.size = cs.size ∧ (w.setCell p u).heap[g]? = some (.cells cs' t fr) := by
  by_cases hg : g = p.block
  · subst hg
    by_cases hs : p.spot.isSome = true
    · refine ⟨cs, rfl, ?_⟩
      simp [World.setCell, Array.getElem?_modify, h, hs]
    · refine ⟨cs.setIfInBounds p.off u, by simp, ?_⟩
      simp [World.setCell, Array.getElem?_modify, h, hs]
  · exact ⟨cs, rfl, blk_far h hg u⟩
/-- A row, whatever has been written over. -/
theorem Row.poke {w : World} {e : TypeId} {sz n : Nat} {v : Value} {xs : List Value} (h : Row w e sz v n xs) (p : Addr) (u : Value) : ∃ ys, Row (w.setCell p u) e sz v n ys := by
  obtain ⟨h1, A, c, rfl, h3, h4⟩ := h
  rcases Nat.eq_zero_or_pos c with hc | hc
  · exact ⟨xs, h1, A, c, rfl, h3, fun h => by omega⟩
  · obtain ⟨g, off, cur, hA, hg, hm, hs, ht⟩ := h4 hc
    obtain ⟨cur', hs', hg'⟩ := setcell_block p u hg
    refine ⟨(cur'.toList.drop (off * sz)).take (n * sz), ?_, A, c, rfl, h3, fun _ => ⟨g, off, cur', hA, hg', hm, by rw [hs', hs], rfl⟩⟩
    rw [List.length_take, List.length_drop, Array.length_toList, hs', hs, Nat.add_mul]
    have := Nat.mul_le_mul_right sz h3
    omega
/-- A node that may be written over. -/
def SoftN (w : World) (B : Nat) (cs : List Value) : Prop := ∃ (a b : Int) (v : Value) (k : Nat) (ys : List Value), cs = [.int .u8 a, .int .i64 b, v] ∧ Row w 3 1 v k ys ∧ k ≤ 1000 ∧ ∀ x, Fp v x → B ≤ x
/-- A tree that may be written over: it lies from B on. -/
structure Soft (w0 w : World) (B : Nat) (A : Option Addr) (n c : Nat) (bx : Nat) (css : List (List Value)) : Prop where
  row : Row w 76 3 (.slice A n c) n css.flatten
  len : css.length = n
  nodes : ∀ cs ∈ css, SoftN w B cs
  fp : ∀ x, Fp (.slice A n c) x → B ≤ x
  box : w.heap[bx]? = some (.cells #[.slice A n c] 59 (0, 0))
  hb : Below B w0 w
theorem flatten_set : ∀ (css : List (List Value)) (i : Nat) (vs : List Value), (∀ cs ∈ css, cs.length = 3) → i < css.length → vs.length = 3 → css.flatten.take (i * 3) ++ vs ++ css.flatten.drop (i * 3 + vs.length) = (css.set i vs).flatten
  | [], i, vs, _, h, _ => absurd h (by simp)
  | cs :: css, 0, vs, hc, _, hv => by
    have h1 := hc cs (.head _)
    rw [List.set_cons_zero, List.flatten_cons, List.flatten_cons, Nat.zero_mul, List.take_zero, List.nil_append, Nat.zero_add, hv, ← h1, List.drop_left]
  | cs :: css, i + 1, vs, hc, h, hv => by
    have h1 := hc cs (.head _)
    have ih := flatten_set css i vs (fun x hx => hc x (.tail _ hx)) (by simpa using h) hv
    rw [List.set_cons_succ, List.flatten_cons, List.flatten_cons, ← ih, Nat.succ_mul, Nat.add_comm (i * 3) 3, ← h1, List.take_append, List.take_of_length_le (by omega), Nat.add_sub_cancel_left, Nat.add_assoc, List.drop_append, List.drop_of_length_le (by omega), Nat.add_sub_cancel_left]
    simp
theorem flatten3_get : ∀ (css : List (List Value)) (i j : Nat) (cs : List Value), (∀ cs ∈ css, cs.length = 3) → css[i]? = some cs → j < 3 → css.flatten[i * 3 + j]? = cs[j]?
  | [], i, j, cs, _, h, _ => by simp at h
  | d :: css, 0, j, cs, hc, h, hj => by
    simp at h
    subst h
    have h1 := hc d (.head _)
    rw [List.flatten_cons, Nat.zero_mul, Nat.zero_add, List.getElem?_append_left (by omega)]
  | d :: css, i + 1, j, cs, hc, h, hj => by
    have h1 := hc d (.head _)
    rw [List.flatten_cons, Nat.succ_mul, List.getElem?_append_right (by omega), show i * 3 + 3 + j - d.length = i * 3 + j by omega]
    exact flatten3_get css i j cs (fun x hx => hc x (.tail _ hx)) (by simpa using h) hj
theorem SoftN.len {w : World} {B : Nat} {cs : List Value} (h : SoftN w B cs) : cs.length = 3 := by
  obtain ⟨_, _, _, _, _, rfl, _⟩ := h
  rfl
section
variable {w0 w : World} {B n c bx : Nat} {A : Option Addr} {css : List (List Value)}
theorem Soft.poke (S : Soft w0 w B A n c bx css) {p : Addr} {cs3 : Array Value} (h3 : w.heap[p.block]? = some (.cells cs3 3 (0, 0))) (hB : B ≤ p.block) (u : Value) : Soft w0 (w.setCell p u) B A n c bx css := by
  refine ⟨S.row.setCell (S.row.ne_ h3 (by decide)) u, S.len, fun cs hcs => ?_, S.fp, ?_, S.hb.setCell hB u⟩
  · obtain ⟨a, b, v, k, ys, he, hr, hk, hf⟩ := S.nodes cs hcs
    obtain ⟨zs, hz⟩ := hr.poke p u
    exact ⟨a, b, v, k, zs, he, hz, hk, hf⟩
  · refine blk_far S.box (fun e => ?_) u
    have h1 := S.box
    rw [e, h3] at h1
    injection h1 with h1
    injection h1 with _ h1
    exact absurd h1 (by decide)
theorem Soft.zap {g o i : Nat} (S : Soft w0 w B (some ⟨g, o, none⟩) n c bx css) (hi : i < n) :
    Soft w0 (((w.setCell ⟨g, o + i * 3, none⟩ (.int .u8 0)).setCell ⟨g, o + i * 3 + 1, none⟩ (.int .i64 0)).setCell ⟨g, o + i * 3 + 2, none⟩ (.slice none 0 0)) B (some ⟨g, o, none⟩) n c bx (css.set i [.int .u8 0, .int .i64 0, .slice none 0 0]) := by
  have hcn : 0 < c := by obtain ⟨_, _, _, he, hc, -⟩ := S.row; injection he with _ _ e3; omega
  have hgfp : Fp (.slice (some ⟨g, o, none⟩) n c) g := ⟨_, _, _, rfl, hcn, rfl⟩
  obtain ⟨cur, hg76⟩ := S.row.typed hgfp
  have hgB := S.fp g hgfp
  have h3 : ∀ cs ∈ css, cs.length = 3 := fun cs hcs => (S.nodes cs hcs).len
  have hp := S.row.puts (by omega) (i * 3) [.int .u8 0, .int .i64 0, .slice none 0 0] (by simp; omega)
  rw [flatten_set css i _ h3 (by rw [S.len]; exact hi) rfl] at hp
  have hbx : bx ≠ g := fun e => by
    have h1 := S.box
    rw [e, hg76] at h1
    injection h1 with h1
    injection h1 with _ h1
    exact absurd h1 (by decide)
  refine ⟨hp, by rw [List.length_set, S.len], fun cs hcs => ?_, S.fp, ?_, ((S.hb.setCell (p := ⟨g, o + i * 3, none⟩) hgB _).setCell (p := ⟨g, o + i * 3 + 1, none⟩) hgB _).setCell (p := ⟨g, o + i * 3 + 2, none⟩) hgB _⟩
  · rcases List.mem_or_eq_of_mem_set hcs with hcs | rfl
    · obtain ⟨a, b, v, k, ys, he, hr, hk, hf⟩ := S.nodes cs hcs
      have hng : ¬ Fp v g := hr.ne_ hg76 (by decide)
      exact ⟨a, b, v, k, ys, he, ((hr.setCell (p := ⟨g, o + i * 3, none⟩) hng _).setCell (p := ⟨g, o + i * 3 + 1, none⟩) hng _).setCell (p := ⟨g, o + i * 3 + 2, none⟩) hng _, hk, hf⟩
    · exact ⟨0, 0, .slice none 0 0, 0, [], rfl, Row.nil _ _ _, by omega, fun x hx => (Fp_none hx).elim⟩
  · exact blk_far (p := ⟨g, o + i * 3 + 2, none⟩) (blk_far (p := ⟨g, o + i * 3 + 1, none⟩) (blk_far (p := ⟨g, o + i * 3, none⟩) S.box hbx _) hbx _) hbx _
theorem Soft.place (S : Soft w0 w B A n c bx css) (hn : 0 < n) : ∃ g o, A = some ⟨g, o, none⟩ := by
  have hcn : 0 < c := by obtain ⟨_, _, _, he, hc, -⟩ := S.row; injection he with _ _ e3; omega
  obtain ⟨g, o, cur, he, _, _⟩ := S.row.place hcn
  exact ⟨g, o, he⟩
theorem Soft.node {g o : Nat} (S : Soft w0 w B (some ⟨g, o, none⟩) n c bx css) {i : Nat} (hi : i < n) :
    ∃ a b KA kn kc ys, w.cell? ⟨g, o + i * 3, none⟩ = some (.int .u8 a) ∧ w.cell? ⟨g, o + i * 3 + 1, none⟩ = some (.int .i64 b) ∧ w.cell? ⟨g, o + i * 3 + 2, none⟩ = some (.slice KA kn kc) ∧ Row w 3 1 (.slice KA kn kc) kn ys ∧ kn ≤ 1000 ∧ (∀ x, Fp (.slice KA kn kc) x → B ≤ x) ∧ (∀ q, w.frozen? ⟨g, q, none⟩ = false) ∧ g < w.heap.size ∧ css[i]? = some [.int .u8 a, .int .i64 b, .slice KA kn kc] := by
  have hcn : 0 < c := by obtain ⟨_, _, _, he, hc, -⟩ := S.row; injection he with _ _ e3; omega
  have hgfp : Fp (.slice (some ⟨g, o, none⟩) n c) g := ⟨_, _, _, rfl, hcn, rfl⟩
  obtain ⟨cur, hg76⟩ := S.row.typed hgfp
  have h3 : ∀ cs ∈ css, cs.length = 3 := fun cs hcs => (S.nodes cs hcs).len
  obtain ⟨cs, hcs⟩ : ∃ cs, css[i]? = some cs := ⟨_, List.getElem?_eq_getElem (by rw [S.len]; exact hi)⟩
  obtain ⟨a, b, v, k, ys, rfl, hr, hk, hf⟩ := S.nodes cs (List.mem_of_getElem? hcs)
  obtain ⟨KA, kc, rfl, _⟩ := hr.slice_
  obtain ⟨_, A', c', he, _, hrd⟩ := S.row.rd (ok := fun _ => True) (fun _ _ => trivial)
  injection he with e1 _ e3
  subst e1; subst e3
  obtain ⟨ad, had, _, hcells⟩ := hrd (by omega)
  injection had with had
  subst had
  have key : ∀ j u, j < 3 → ([.int .u8 a, .int .i64 b, .slice KA k kc] : List Value)[j]? = some u → w.cell? ⟨g, o + (i * 3 + j), none⟩ = some u := fun j u hj hu => by
    have := hcells (i * 3 + j) u ((flatten3_get css i j _ h3 hcs hj).trans hu)
    rwa [add_at] at this
  exact ⟨a, b, KA, k, kc, ys, key 0 _ (by decide) rfl, key 1 _ (by decide) rfl, key 2 _ (by decide) rfl, hr, hk, hf, fun q => blk_frozen hg76 q, blk_lt hg76, hcs⟩
end
/-- A cell of a row of integers. -/
theorem Row.there {w : World} {n c i : Nat} {A : Option Addr} {xs : List Value} (h : Row w 3 1 (.slice A n c) n xs) (hi : i < n) : ∃ g o, A = some ⟨g, o, none⟩ ∧ (∃ u, w.cell? ⟨g, o + i, none⟩ = some u) ∧ (∀ q, w.frozen? ⟨g, q, none⟩ = false) ∧ g < w.heap.size ∧ (∃ cs, w.heap[g]? = some (.cells cs 3 (0, 0))) ∧ Fp (.slice A n c) g := by
  have hcn : 0 < c := by obtain ⟨_, _, _, he, hc, -⟩ := h; injection he with _ _ e3; omega
  obtain ⟨g, o, cur, he, hg, hfit⟩ := h.place hcn
  subst he
  refine ⟨g, o, rfl, ⟨cur[o + i]'(by omega), ?_⟩, fun q => blk_frozen hg q, blk_lt hg, ⟨cur, hg⟩, ⟨_, _, _, rfl, hcn, rfl⟩⟩
  rw [blk_cell hg]
  simp [show o + i < cur.size by omega]
theorem soft_of {w : World} {B n c : Nat} {A : Option Addr} {l : List Nd} (h : OwnP El.ndO w 76 (fun b => B ≤ b) (.slice A n c) l) (hn : n = l.length) (hf : Fits22 l) (hB : B ≤ w.heap.size) :
    ∃ css, Soft w (w.alloc (.cells #[.slice A n c] 59)) B A n c w.heap.size css := by
  subst hn
  have h2 := h.below ((Below.refl _ _).alloc (Nat.le_refl _) (.cells #[.slice A l.length c] 59))
  obtain ⟨css, h3, h4, h5⟩ := h2
  refine ⟨css, h3, (forall2_len h5).symm, fun cs hcs => ?_, h4, heap_alloc_new _ _, (Below.refl _ _).alloc hB _⟩
  obtain ⟨i, hi, rfl⟩ := List.getElem_of_mem hcs
  obtain ⟨cs', h6, h7⟩ := forall2_at h5 i (by rw [forall2_len h5]; exact hi)
  rw [List.getElem?_eq_getElem hi] at h6
  injection h6 with h6
  rw [h6]
  obtain ⟨v, he, hr, ho⟩ := h7
  exact ⟨_, _, v, _, _, he, hr, hf.2 _ (List.getElem_mem _), fun x hx => (ho x hx).1⟩
set_option maxHeartbeats 8000000 in
theorem spoil_any {w : World} {B n c : Nat} {A : Option Addr} {l : List Nd} (h : OwnP El.ndO w 76 (fun b => B ≤ b) (.slice A n c) l) (hn : n = l.length) (hf : Fits22 l) (hB : B ≤ w.heap.size) :
    Calls Try.prog 40 #[.agg #[.slice A n c]] w fun e w' => e = .returned (.tuple #[]) ∧ Below B w w' := by
  have hl : n ≤ 1000 := by rw [hn]; exact hf.1
  obtain ⟨css0, s0⟩ := soft_of h hn hf hB
  have S0 := hide s0
  clear h hf hn s0 hB
  go_enter Try.func40, Try.ntmps40
  go_wp2
  go_loopw [2] (fun iv wr => ∃ (i : Nat) (css : List (List Value)), i ≤ n ∧ iv = .int .i64 i ∧ Hid (Soft w wr B A n c w.heap.size css)) (fun i _ => n - (intOf i).toNat)
  case atStart => exact ⟨0, css0, Nat.zero_le _, rfl, S0.out⟩
  case round =>
    clear S0
    obtain ⟨i, css, hi, rfl, S⟩ := hrel
    have b0 := blk_cell S.out.box 0
    have bl := blk_lt S.out.box
    simp at b0
    by_cases hlt : i < n
    · obtain ⟨g, o, hA⟩ := S.out.place (by omega)
      subst hA
      obtain ⟨a, b, KA, kn, kc, ys, x0, x1, x2, hr, hkn, hkf, xf, xl, hcs⟩ := S.out.node hlt
      have HCS := hide hcs
      clear hr hkf hcs x0 x1 x2 xl
      go_wp2
      go_loopw [3] (fun kv wk => ∃ (k : Nat), k ≤ kn ∧ kv = .int .i64 k ∧ Hid (∃ css', css'[i]? = css[i]? ∧ Soft w wk B (some ⟨g, o, none⟩) n c w.heap.size css')) (fun i _ => kn - (intOf i).toNat)
      case atStart => exact ⟨0, Nat.zero_le _, rfl, css, rfl, S.out⟩
      case round =>
        obtain ⟨k, hk, rfl, SK⟩ := hrel
        obtain ⟨css', he', S'⟩ := SK.out
        have HCS' := hide (he'.trans HCS.out)
        have SS := hide S'
        clear he' S' SK
        have b0 := blk_cell SS.out.box 0
        have bl := blk_lt SS.out.box
        simp at b0
        obtain ⟨a', b', KA', kn', kc', ys', x0, x1, x2, hr, hkn', hkf, xf', xl, hcs⟩ := SS.out.node hlt
        have hee := hcs.symm.trans HCS'.out
        simp at hee
        obtain ⟨rfl, rfl, rfl, rfl, rfl⟩ := hee
        by_cases hltk : k < kn'
        · obtain ⟨kg, ko, hKA, ⟨ku, z0⟩, zf, zl, ⟨kcs, hkb⟩, hkfp⟩ := hr.there hltk
          subst hKA
          have hkB := hkf _ hkfp
          have HKB := hide hkb
          clear hr hkf hkb hkfp xf hcs
          go_wp2
          go_roundw
          case rel =>
            refine ⟨k + 1, by omega, by go_num, css', HCS'.out.trans HCS.out.symm, ?_⟩
            exact SS.out.poke (p := ⟨kg, ko + k, none⟩) HKB.out hkB _
          case measure => simp [intOf]; omega
        · obtain rfl : k = kn' := by omega
          have hA9 : (⟨g, o, none⟩ : Addr).add (i * 3) = ⟨g, o + i * 3, none⟩ := by rw [add_at]
          clear hr hkf hcs xf
          go_wp2
          go_roundw
          case rel =>
            refine ⟨i + 1, _, by omega, by go_num, SS.out.zap hlt⟩
          case measure => simp [intOf]; omega
    · go_wp2
      go_end0
      exact ⟨rfl, S.out.hb⟩
end Go.Proofs.Ytbobjecjopmnfaa
