/- The walk of spoil once more: it changes what the tree owns, and nothing else. -/
import Derived.Test.YtbobjecjopmnfaaN7
namespace Go.Proofs.Ytbobjecjopmnfaa
open Go.RowKit
/-- A node that may be written over. -/
def SoftM (w : World) (B : Nat → Prop) (cs : List Value) : Prop := ∃ (a b : Int) (v : Value) (k : Nat) (ys : List Value), cs = [.int .u8 a, .int .i64 b, v] ∧ Row w 3 1 v k ys ∧ k ≤ 1000 ∧ ∀ x, Fp v x → B x
/-- A tree that may be written over: it lies from B on. -/
structure SoftO (w0 w : World) (B : Nat → Prop) (A : Option Addr) (n c : Nat) (bx : Nat) (css : List (List Value)) : Prop where
  row : Row w 76 3 (.slice A n c) n css.flatten
  len : css.length = n
  nodes : ∀ cs ∈ css, SoftM w B cs
  fp : ∀ x, Fp (.slice A n c) x → B x
  box : w.heap[bx]? = some (.cells #[.slice A n c] 59 (0, 0))
  hb : Only B w0 w
theorem SoftM.len {w : World} {B : Nat → Prop} {cs : List Value} (h : SoftM w B cs) : cs.length = 3 := by
  obtain ⟨_, _, _, _, _, rfl, _⟩ := h
  rfl
section
variable {w0 w : World} {B : Nat → Prop} {n c bx : Nat} {A : Option Addr} {css : List (List Value)}
theorem SoftO.poke (S : SoftO w0 w B A n c bx css) {p : Addr} {cs3 : Array Value} (h3 : w.heap[p.block]? = some (.cells cs3 3 (0, 0))) (hB : B p.block) (u : Value) : SoftO w0 (w.setCell p u) B A n c bx css := by
  refine ⟨S.row.setCell (S.row.ne_ h3 (by decide)) u, S.len, fun cs hcs => ?_, S.fp, ?_, S.hb.setCell (.inl hB) u⟩
  · obtain ⟨a, b, v, k, ys, he, hr, hk, hf⟩ := S.nodes cs hcs
    obtain ⟨zs, hz⟩ := hr.poke p u
    exact ⟨a, b, v, k, zs, he, hz, hk, hf⟩
  · refine blk_far S.box (fun e => ?_) u
    have h1 := S.box
    rw [e, h3] at h1
    injection h1 with h1
    injection h1 with _ h1
    exact absurd h1 (by decide)
theorem SoftO.zap {g o i : Nat} (S : SoftO w0 w B (some ⟨g, o, none⟩) n c bx css) (hi : i < n) :
    SoftO w0 (((w.setCell ⟨g, o + i * 3, none⟩ (.int .u8 0)).setCell ⟨g, o + i * 3 + 1, none⟩ (.int .i64 0)).setCell ⟨g, o + i * 3 + 2, none⟩ (.slice none 0 0)) B (some ⟨g, o, none⟩) n c bx (css.set i [.int .u8 0, .int .i64 0, .slice none 0 0]) := by
  have hcn : 0 < c := by obtain ⟨_, _, _, he, hc, -⟩ := S.row; injection he with _ _ e3; omega
  have hgfp : Fp (.slice (some ⟨g, o, none⟩) n c) g := ⟨_, _, _, rfl, hcn, rfl⟩
  obtain ⟨cur, hg76⟩ := S.row.typed hgfp
  have hgB := S.fp g hgfp
  have h3 : ∀ cs ∈ css, cs.length = 3 := fun cs hcs => (S.nodes cs hcs).len
  have hp := S.row.puts (by omega) (i * 3) [.int .u8 0, .int .i64 0, .slice none 0 0] (by simp; omega)
  rw [flatten_set css i _ h3 (by rw [S.len]; exact hi) rfl] at hp
  have hbx : bx ≠ g := fun e => by
    have h1 := S.box
    rw [e, hg76] at h1
    injection h1 with h1
    injection h1 with _ h1
    exact absurd h1 (by decide)
  refine ⟨hp, by rw [List.length_set, S.len], fun cs hcs => ?_, S.fp, ?_, ((S.hb.setCell (p := ⟨g, o + i * 3, none⟩) (.inl hgB) _).setCell (p := ⟨g, o + i * 3 + 1, none⟩) (.inl hgB) _).setCell (p := ⟨g, o + i * 3 + 2, none⟩) (.inl hgB) _⟩
  · rcases List.mem_or_eq_of_mem_set hcs with hcs | rfl
    · obtain ⟨a, b, v, k, ys, he, hr, hk, hf⟩ := S.nodes cs hcs
      have hng : ¬ Fp v g := hr.ne_ hg76 (by decide)
      exact ⟨a, b, v, k, ys, he, ((hr.setCell (p := ⟨g, o + i * 3, none⟩) hng _).setCell (p := ⟨g, o + i * 3 + 1, none⟩) hng _).setCell (p := ⟨g, o + i * 3 + 2, none⟩) hng _, hk, hf⟩
    · exact ⟨0, 0, .slice none 0 0, 0, [], rfl, Row.nil _ _ _, by omega, fun x hx => (Fp_none hx).elim⟩
  · exact blk_far (p := ⟨g, o + i * 3 + 2, none⟩) (blk_far (p := ⟨g, o + i * 3 + 1, none⟩) (blk_far (p := ⟨g, o + i * 3, none⟩) S.box hbx _) hbx _) hbx _
theorem SoftO.place (S : SoftO w0 w B A n c bx css) (hn : 0 < n) : ∃ g o, A = some ⟨g, o, none⟩ := by
  have hcn : 0 < c := by obtain ⟨_, _, _, he, hc, -⟩ := S.row; injection he with _ _ e3; omega
  obtain ⟨g, o, cur, he, _, _⟩ := S.row.place hcn
  exact ⟨g, o, he⟩
theorem SoftO.node {g o : Nat} (S : SoftO w0 w B (some ⟨g, o, none⟩) n c bx css) {i : Nat} (hi : i < n) :
    ∃ a b KA kn kc ys, w.cell? ⟨g, o + i * 3, none⟩ = some (.int .u8 a) ∧ w.cell? ⟨g, o + i * 3 + 1, none⟩ = some (.int .i64 b) ∧ w.cell? ⟨g, o + i * 3 + 2, none⟩ = some (.slice KA kn kc) ∧ Row w 3 1 (.slice KA kn kc) kn ys ∧ kn ≤ 1000 ∧ (∀ x, Fp (.slice KA kn kc) x → B x) ∧ (∀ q, w.frozen? ⟨g, q, none⟩ = false) ∧ g < w.heap.size ∧ css[i]? = some [.int .u8 a, .int .i64 b, .slice KA kn kc] := by
  have hcn : 0 < c := by obtain ⟨_, _, _, he, hc, -⟩ := S.row; injection he with _ _ e3; omega
  have hgfp : Fp (.slice (some ⟨g, o, none⟩) n c) g := ⟨_, _, _, rfl, hcn, rfl⟩
  obtain ⟨cur, hg76⟩ := S.row.typed hgfp
  have h3 : ∀ cs ∈ css, cs.length = 3 := fun cs hcs => (S.nodes cs hcs).len
  obtain ⟨cs, hcs⟩ : ∃ cs, css[i]? = some cs := ⟨_, List.getElem?_eq_getElem (by rw [S.len]; exact hi)⟩
  obtain ⟨a, b, v, k, ys, rfl, hr, hk, hf⟩ := S.nodes cs (List.mem_of_getElem? hcs)
  obtain ⟨KA, kc, rfl, _⟩ := hr.slice_
  obtain ⟨_, A', c', he, _, hrd⟩ := S.row.rd (ok := fun _ => True) (fun _ _ => trivial)
  injection he with e1 _ e3
  subst e1; subst e3
  obtain ⟨ad, had, _, hcells⟩ := hrd (by omega)
  injection had with had
  subst had
  have key : ∀ j u, j < 3 → ([.int .u8 a, .int .i64 b, .slice KA k kc] : List Value)[j]? = some u → w.cell? ⟨g, o + (i * 3 + j), none⟩ = some u := fun j u hj hu => by
    have := hcells (i * 3 + j) u ((flatten3_get css i j _ h3 hcs hj).trans hu)
    rwa [add_at] at this
  exact ⟨a, b, KA, k, kc, ys, key 0 _ (by decide) rfl, key 1 _ (by decide) rfl, key 2 _ (by decide) rfl, hr, hk, hf, fun q => blk_frozen hg76 q, blk_lt hg76, hcs⟩
end
theorem softo_of {w : World} {B : Nat → Prop} {n c : Nat} {A : Option Addr} {l : List Nd} (h : OwnP El.ndO w 76 B (.slice A n c) l) (hn : n = l.length) (hf : Fits22 l) :
    ∃ css, SoftO w (w.alloc (.cells #[.slice A n c] 59)) B A n c w.heap.size css := by
  subst hn
  have h2 := h.below ((Below.refl _ _).alloc (Nat.le_refl _) (.cells #[.slice A l.length c] 59))
  obtain ⟨css, h3, h4, h5⟩ := h2
  refine ⟨css, h3, (forall2_len h5).symm, fun cs hcs => ?_, h4, heap_alloc_new _ _, (Only.refl _ _).alloc _⟩
  obtain ⟨i, hi, rfl⟩ := List.getElem_of_mem hcs
  obtain ⟨cs', h6, h7⟩ := forall2_at h5 i (by rw [forall2_len h5]; exact hi)
  rw [List.getElem?_eq_getElem hi] at h6
  injection h6 with h6
  rw [h6]
  obtain ⟨v, he, hr, ho⟩ := h7
  exact ⟨_, _, v, _, _, he, hr, hf.2 _ (List.getElem_mem _), fun x hx => (ho x hx).1⟩
set_option maxHeartbeats 8000000 in
theorem spoil_only {w : World} {B : Nat → Prop} {n c : Nat} {A : Option Addr} {l : List Nd} (h : OwnP El.ndO w 76 B (.slice A n c) l) (hn : n = l.length) (hf : Fits22 l) :
    Calls Try.prog 40 #[.agg #[.slice A n c]] w fun e w' => e = .returned (.tuple #[]) ∧ Only B w w' := by
  have hl : n ≤ 1000 := by rw [hn]; exact hf.1
  obtain ⟨css0, s0⟩ := softo_of h hn hf
  have S0 := hide s0
  clear h hf hn s0
  go_enter Try.func40, Try.ntmps40
  go_wp2
  go_loopw [2] (fun iv wr => ∃ (i : Nat) (css : List (List Value)), i ≤ n ∧ iv = .int .i64 i ∧ Hid (SoftO w wr B A n c w.heap.size css)) (fun i _ => n - (intOf i).toNat)
  case atStart => exact ⟨0, css0, Nat.zero_le _, rfl, S0.out⟩
  case round =>
    clear S0
    obtain ⟨i, css, hi, rfl, S⟩ := hrel
    have b0 := blk_cell S.out.box 0
    have bl := blk_lt S.out.box
    simp at b0
    by_cases hlt : i < n
    · obtain ⟨g, o, hA⟩ := S.out.place (by omega)
      subst hA
      obtain ⟨a, b, KA, kn, kc, ys, x0, x1, x2, hr, hkn, hkf, xf, xl, hcs⟩ := S.out.node hlt
      have HCS := hide hcs
      clear hr hkf hcs x0 x1 x2 xl
      go_wp2
      go_loopw [3] (fun kv wk => ∃ (k : Nat), k ≤ kn ∧ kv = .int .i64 k ∧ Hid (∃ css', css'[i]? = css[i]? ∧ SoftO w wk B (some ⟨g, o, none⟩) n c w.heap.size css')) (fun i _ => kn - (intOf i).toNat)
      case atStart => exact ⟨0, Nat.zero_le _, rfl, css, rfl, S.out⟩
      case round =>
        obtain ⟨k, hk, rfl, SK⟩ := hrel
        obtain ⟨css', he', S'⟩ := SK.out
        have HCS' := hide (he'.trans HCS.out)
        have SS := hide S'
        clear he' S' SK
        have b0 := blk_cell SS.out.box 0
        have bl := blk_lt SS.out.box
        simp at b0
        obtain ⟨a', b', KA', kn', kc', ys', x0, x1, x2, hr, hkn', hkf, xf', xl, hcs⟩ := SS.out.node hlt
        have hee := hcs.symm.trans HCS'.out
        simp at hee
        obtain ⟨rfl, rfl, rfl, rfl, rfl⟩ := hee
        by_cases hltk : k < kn'
        · obtain ⟨kg, ko, hKA, ⟨ku, z0⟩, zf, zl, ⟨kcs, hkb⟩, hkfp⟩ := hr.there hltk
          subst hKA
          have hkB := hkf _ hkfp
          have HKB := hide hkb
          clear hr hkf hkb hkfp xf hcs
          go_wp2
          go_roundw
          case rel =>
            refine ⟨k + 1, by omega, by go_num, css', HCS'.out.trans HCS.out.symm, ?_⟩
            exact SS.out.poke (p := ⟨kg, ko + k, none⟩) HKB.out hkB _
          case measure => simp [intOf]; omega
        · obtain rfl : k = kn' := by omega
          have hA9 : (⟨g, o, none⟩ : Addr).add (i * 3) = ⟨g, o + i * 3, none⟩ := by rw [add_at]
          clear hr hkf hcs xf
          go_wp2
          go_roundw
          case rel =>
            refine ⟨i + 1, _, by omega, by go_num, SS.out.zap hlt⟩
          case measure => simp [intOf]; omega
    · go_wp2
      go_end0
      exact ⟨rfl, S.out.hb⟩
end Go.Proofs.Ytbobjecjopmnfaa
