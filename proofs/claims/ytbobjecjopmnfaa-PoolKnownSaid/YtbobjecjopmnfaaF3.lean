/- The walk of is (the statements'). -/
import Derived.Test.YtbobjecjopmnfaaF2
namespace Go.Proofs.Ytbobjecjopmnfaa
open Go.RowKit
theorem Row.some_ {w : World} {e : TypeId} {g o c n : Nat} {xs : List Value} (h : Row w e 4 (.slice (some ⟨g, o, none⟩) n c) n xs) (i : Nat) (hi : i < n) :
    (∃ u, w.cell? ⟨g, o + i * 4, none⟩ = some u) ∧ (∃ u, w.cell? ⟨g, o + i * 4 + 1, none⟩ = some u) ∧ (∃ u, w.cell? ⟨g, o + i * 4 + 2, none⟩ = some u) ∧ (∃ u, w.cell? ⟨g, o + i * 4 + 3, none⟩ = some u) ∧ (∀ q, w.frozen? ⟨g, q, none⟩ = false) ∧ g < w.heap.size := by
  have hcn : 0 < c := by obtain ⟨_, _, _, he, hc, -⟩ := h; injection he with _ _ e3; omega
  obtain ⟨g', o', cur, he, hg, hfit⟩ := h.place hcn
  injection he with he
  injection he with h1 h2
  subst h1; subst h2
  have key : ∀ q, q < 4 → ∃ u, w.cell? ⟨g, o + i * 4 + q, none⟩ = some u := fun q hq => by
    rw [blk_cell hg]
    have : o + i * 4 + q < cur.size := by omega
    exact ⟨cur[o + i * 4 + q], by simp [this]⟩
  exact ⟨key 0 (by omega), key 1 (by omega), key 2 (by omega), key 3 (by omega), fun q => blk_frozen hg q, blk_lt hg⟩
theorem Row.zap {w : World} {e : TypeId} {g o c n : Nat} {xs : List Value} (h : Row w e 4 (.slice (some ⟨g, o, none⟩) n c) n xs) (i : Nat) (hi : i < n) :
    ∃ ys, Row ((((w.setCell ⟨g, o + i * 4, none⟩ (.int .u8 0)).setCell ⟨g, o + i * 4 + 1, none⟩ (.string ⟨#[]⟩)).setCell ⟨g, o + i * 4 + 2, none⟩ (.int .i64 0)).setCell ⟨g, o + i * 4 + 3, none⟩ (.int .i64 0)) e 4 (.slice (some ⟨g, o, none⟩) n c) n ys :=
  ⟨_, h.puts (by omega) (i * 4) [.int .u8 0, .string ⟨#[]⟩, .int .i64 0, .int .i64 0] (by simp; omega)⟩
/-- Three rows of a call's own, and a row of the three: they may be written over. -/
structure Three (w0 wr : World) (gl : Nat) (A B C : Option Addr) (a b c d r f : Nat) : Prop where
  r0 : ∃ xs, Row wr 31 4 (.slice A d a) d xs
  r1 : ∃ xs, Row wr 31 4 (.slice B r b) r xs
  r2 : ∃ xs, Row wr 31 4 (.slice C f c) f xs
  a01 : Apart (.slice A d a) (.slice B r b)
  a02 : Apart (.slice A d a) (.slice C f c)
  a12 : Apart (.slice B r b) (.slice C f c)
  n0 : ∀ q, Fp (.slice A d a) q → w0.heap.size ≤ q
  n1 : ∀ q, Fp (.slice B r b) q → w0.heap.size ≤ q
  n2 : ∀ q, Fp (.slice C f c) q → w0.heap.size ≤ q
  hl : wr.heap[gl]? = some (.cells #[.slice A d a, .slice B r b, .slice C f c] 41 (0, 0))
  hB : Below w0.heap.size w0 wr

theorem Three.zap0 {w0 wr : World} {gl g o i : Nat} {B C : Option Addr} {a b c d r f : Nat} (T : Three w0 wr gl (some ⟨g, o, none⟩) B C a b c d r f) (hi : i < d) :
    ((∃ u, wr.cell? ⟨g, o + i * 4, none⟩ = some u) ∧ (∃ u, wr.cell? ⟨g, o + i * 4 + 1, none⟩ = some u) ∧ (∃ u, wr.cell? ⟨g, o + i * 4 + 2, none⟩ = some u) ∧ (∃ u, wr.cell? ⟨g, o + i * 4 + 3, none⟩ = some u) ∧ (∀ q, wr.frozen? ⟨g, q, none⟩ = false) ∧ g < wr.heap.size) ∧
    Hid (Three w0 ((((wr.setCell ⟨g, o + i * 4, none⟩ (.int .u8 0)).setCell ⟨g, o + i * 4 + 1, none⟩ (.string ⟨#[]⟩)).setCell ⟨g, o + i * 4 + 2, none⟩ (.int .i64 0)).setCell ⟨g, o + i * 4 + 3, none⟩ (.int .i64 0)) gl (some ⟨g, o, none⟩) B C a b c d r f) := by
  obtain ⟨xs, hx⟩ := T.r0
  have hcn : 0 < a := by obtain ⟨_, _, _, he, hc, -⟩ := hx; injection he with _ _ e3; omega
  have hgfp : Fp (.slice (some ⟨g, o, none⟩) d a) g := ⟨_, _, _, rfl, hcn, rfl⟩
  have hng : gl ≠ g := fun e => by subst e; exact hx.ne_ T.hl (by decide) hgfp
  obtain ⟨ys, hz⟩ := hx.zap i hi
  have hg0 := T.n0 g hgfp
  exact ⟨hx.some_ i hi, ⟨ys, hz⟩, (by obtain ⟨zs, hzs⟩ := T.r1; exact ⟨zs, (((hzs.setCell (p := ⟨g, o + i * 4, none⟩) (fun h => T.a01 g hgfp h) _).setCell (p := ⟨g, o + i * 4 + 1, none⟩) (fun h => T.a01 g hgfp h) _).setCell (p := ⟨g, o + i * 4 + 2, none⟩) (fun h => T.a01 g hgfp h) _).setCell (p := ⟨g, o + i * 4 + 3, none⟩) (fun h => T.a01 g hgfp h) _⟩), (by obtain ⟨zs, hzs⟩ := T.r2; exact ⟨zs, (((hzs.setCell (p := ⟨g, o + i * 4, none⟩) (fun h => T.a02 g hgfp h) _).setCell (p := ⟨g, o + i * 4 + 1, none⟩) (fun h => T.a02 g hgfp h) _).setCell (p := ⟨g, o + i * 4 + 2, none⟩) (fun h => T.a02 g hgfp h) _).setCell (p := ⟨g, o + i * 4 + 3, none⟩) (fun h => T.a02 g hgfp h) _⟩), T.a01, T.a02, T.a12, T.n0, T.n1, T.n2, blk_far (p := ⟨g, o + i * 4 + 3, none⟩) (blk_far (p := ⟨g, o + i * 4 + 2, none⟩) (blk_far (p := ⟨g, o + i * 4 + 1, none⟩) (blk_far (p := ⟨g, o + i * 4, none⟩) T.hl hng _) hng _) hng _) hng _,
    (((T.hB.setCell (p := ⟨g, o + i * 4, none⟩) hg0 _).setCell (p := ⟨g, o + i * 4 + 1, none⟩) hg0 _).setCell (p := ⟨g, o + i * 4 + 2, none⟩) hg0 _).setCell (p := ⟨g, o + i * 4 + 3, none⟩) hg0 _⟩
theorem Three.place0 {w0 wr : World} {gl : Nat} {A B C : Option Addr} {a b c d r f : Nat} (T : Three w0 wr gl A B C a b c d r f) (hi : 0 < d) : ∃ g o, A = some ⟨g, o, none⟩ := by
  obtain ⟨xs, hx⟩ := T.r0
  have hcn : 0 < a := by obtain ⟨_, _, _, he, hc, -⟩ := hx; injection he with _ _ e3; omega
  obtain ⟨g, o, cur, he, _, _⟩ := hx.place hcn
  exact ⟨g, o, he⟩

theorem Three.zap1 {w0 wr : World} {gl g o i : Nat} {A C : Option Addr} {a b c d r f : Nat} (T : Three w0 wr gl A (some ⟨g, o, none⟩) C a b c d r f) (hi : i < r) :
    ((∃ u, wr.cell? ⟨g, o + i * 4, none⟩ = some u) ∧ (∃ u, wr.cell? ⟨g, o + i * 4 + 1, none⟩ = some u) ∧ (∃ u, wr.cell? ⟨g, o + i * 4 + 2, none⟩ = some u) ∧ (∃ u, wr.cell? ⟨g, o + i * 4 + 3, none⟩ = some u) ∧ (∀ q, wr.frozen? ⟨g, q, none⟩ = false) ∧ g < wr.heap.size) ∧
    Hid (Three w0 ((((wr.setCell ⟨g, o + i * 4, none⟩ (.int .u8 0)).setCell ⟨g, o + i * 4 + 1, none⟩ (.string ⟨#[]⟩)).setCell ⟨g, o + i * 4 + 2, none⟩ (.int .i64 0)).setCell ⟨g, o + i * 4 + 3, none⟩ (.int .i64 0)) gl A (some ⟨g, o, none⟩) C a b c d r f) := by
  obtain ⟨xs, hx⟩ := T.r1
  have hcn : 0 < b := by obtain ⟨_, _, _, he, hc, -⟩ := hx; injection he with _ _ e3; omega
  have hgfp : Fp (.slice (some ⟨g, o, none⟩) r b) g := ⟨_, _, _, rfl, hcn, rfl⟩
  have hng : gl ≠ g := fun e => by subst e; exact hx.ne_ T.hl (by decide) hgfp
  obtain ⟨ys, hz⟩ := hx.zap i hi
  have hg0 := T.n1 g hgfp
  exact ⟨hx.some_ i hi, (by obtain ⟨zs, hzs⟩ := T.r0; exact ⟨zs, (((hzs.setCell (p := ⟨g, o + i * 4, none⟩) (fun h => T.a01 g h hgfp) _).setCell (p := ⟨g, o + i * 4 + 1, none⟩) (fun h => T.a01 g h hgfp) _).setCell (p := ⟨g, o + i * 4 + 2, none⟩) (fun h => T.a01 g h hgfp) _).setCell (p := ⟨g, o + i * 4 + 3, none⟩) (fun h => T.a01 g h hgfp) _⟩), ⟨ys, hz⟩, (by obtain ⟨zs, hzs⟩ := T.r2; exact ⟨zs, (((hzs.setCell (p := ⟨g, o + i * 4, none⟩) (fun h => T.a12 g hgfp h) _).setCell (p := ⟨g, o + i * 4 + 1, none⟩) (fun h => T.a12 g hgfp h) _).setCell (p := ⟨g, o + i * 4 + 2, none⟩) (fun h => T.a12 g hgfp h) _).setCell (p := ⟨g, o + i * 4 + 3, none⟩) (fun h => T.a12 g hgfp h) _⟩), T.a01, T.a02, T.a12, T.n0, T.n1, T.n2, blk_far (p := ⟨g, o + i * 4 + 3, none⟩) (blk_far (p := ⟨g, o + i * 4 + 2, none⟩) (blk_far (p := ⟨g, o + i * 4 + 1, none⟩) (blk_far (p := ⟨g, o + i * 4, none⟩) T.hl hng _) hng _) hng _) hng _,
    (((T.hB.setCell (p := ⟨g, o + i * 4, none⟩) hg0 _).setCell (p := ⟨g, o + i * 4 + 1, none⟩) hg0 _).setCell (p := ⟨g, o + i * 4 + 2, none⟩) hg0 _).setCell (p := ⟨g, o + i * 4 + 3, none⟩) hg0 _⟩
theorem Three.place1 {w0 wr : World} {gl : Nat} {A B C : Option Addr} {a b c d r f : Nat} (T : Three w0 wr gl A B C a b c d r f) (hi : 0 < r) : ∃ g o, B = some ⟨g, o, none⟩ := by
  obtain ⟨xs, hx⟩ := T.r1
  have hcn : 0 < b := by obtain ⟨_, _, _, he, hc, -⟩ := hx; injection he with _ _ e3; omega
  obtain ⟨g, o, cur, he, _, _⟩ := hx.place hcn
  exact ⟨g, o, he⟩

theorem Three.zap2 {w0 wr : World} {gl g o i : Nat} {A B : Option Addr} {a b c d r f : Nat} (T : Three w0 wr gl A B (some ⟨g, o, none⟩) a b c d r f) (hi : i < f) :
    ((∃ u, wr.cell? ⟨g, o + i * 4, none⟩ = some u) ∧ (∃ u, wr.cell? ⟨g, o + i * 4 + 1, none⟩ = some u) ∧ (∃ u, wr.cell? ⟨g, o + i * 4 + 2, none⟩ = some u) ∧ (∃ u, wr.cell? ⟨g, o + i * 4 + 3, none⟩ = some u) ∧ (∀ q, wr.frozen? ⟨g, q, none⟩ = false) ∧ g < wr.heap.size) ∧
    Hid (Three w0 ((((wr.setCell ⟨g, o + i * 4, none⟩ (.int .u8 0)).setCell ⟨g, o + i * 4 + 1, none⟩ (.string ⟨#[]⟩)).setCell ⟨g, o + i * 4 + 2, none⟩ (.int .i64 0)).setCell ⟨g, o + i * 4 + 3, none⟩ (.int .i64 0)) gl A B (some ⟨g, o, none⟩) a b c d r f) := by
  obtain ⟨xs, hx⟩ := T.r2
  have hcn : 0 < c := by obtain ⟨_, _, _, he, hc, -⟩ := hx; injection he with _ _ e3; omega
  have hgfp : Fp (.slice (some ⟨g, o, none⟩) f c) g := ⟨_, _, _, rfl, hcn, rfl⟩
  have hng : gl ≠ g := fun e => by subst e; exact hx.ne_ T.hl (by decide) hgfp
  obtain ⟨ys, hz⟩ := hx.zap i hi
  have hg0 := T.n2 g hgfp
  exact ⟨hx.some_ i hi, (by obtain ⟨zs, hzs⟩ := T.r0; exact ⟨zs, (((hzs.setCell (p := ⟨g, o + i * 4, none⟩) (fun h => T.a02 g h hgfp) _).setCell (p := ⟨g, o + i * 4 + 1, none⟩) (fun h => T.a02 g h hgfp) _).setCell (p := ⟨g, o + i * 4 + 2, none⟩) (fun h => T.a02 g h hgfp) _).setCell (p := ⟨g, o + i * 4 + 3, none⟩) (fun h => T.a02 g h hgfp) _⟩), (by obtain ⟨zs, hzs⟩ := T.r1; exact ⟨zs, (((hzs.setCell (p := ⟨g, o + i * 4, none⟩) (fun h => T.a12 g h hgfp) _).setCell (p := ⟨g, o + i * 4 + 1, none⟩) (fun h => T.a12 g h hgfp) _).setCell (p := ⟨g, o + i * 4 + 2, none⟩) (fun h => T.a12 g h hgfp) _).setCell (p := ⟨g, o + i * 4 + 3, none⟩) (fun h => T.a12 g h hgfp) _⟩), ⟨ys, hz⟩, T.a01, T.a02, T.a12, T.n0, T.n1, T.n2, blk_far (p := ⟨g, o + i * 4 + 3, none⟩) (blk_far (p := ⟨g, o + i * 4 + 2, none⟩) (blk_far (p := ⟨g, o + i * 4 + 1, none⟩) (blk_far (p := ⟨g, o + i * 4, none⟩) T.hl hng _) hng _) hng _) hng _,
    (((T.hB.setCell (p := ⟨g, o + i * 4, none⟩) hg0 _).setCell (p := ⟨g, o + i * 4 + 1, none⟩) hg0 _).setCell (p := ⟨g, o + i * 4 + 2, none⟩) hg0 _).setCell (p := ⟨g, o + i * 4 + 3, none⟩) hg0 _⟩
theorem Three.place2 {w0 wr : World} {gl : Nat} {A B C : Option Addr} {a b c d r f : Nat} (T : Three w0 wr gl A B C a b c d r f) (hi : 0 < f) : ∃ g o, C = some ⟨g, o, none⟩ := by
  obtain ⟨xs, hx⟩ := T.r2
  have hcn : 0 < c := by obtain ⟨_, _, _, he, hc, -⟩ := hx; injection he with _ _ e3; omega
  obtain ⟨g, o, cur, he, _, _⟩ := hx.place hcn
  exact ⟨g, o, he⟩


theorem RLies.ready {w w' : World} {ok : Nat → Prop} {g : Nat} {m : M} {A B C : Option Addr} {a b c : Nat} (L : RLies w ok g m A B C a b c) (h : Below w.heap.size w w') :
    w'.cell? ⟨g, 1, none⟩ = some (.slice A m.D.length a) ∧ w'.cell? ⟨g, 2, none⟩ = some (.slice B m.R.length b) ∧ w'.cell? ⟨g, 3, none⟩ = some (.slice C m.F.length c) ∧
    Hid (Rd w' (fun _ => True) 4 (.slice A m.D.length a) m.D.length (cells m.D)) ∧ Hid (Rd w' (fun _ => True) 4 (.slice B m.R.length b) m.R.length (cells m.R)) ∧ Hid (Rd w' (fun _ => True) 4 (.slice C m.F.length c) m.F.length (cells m.F)) := by
  have hb := (h.block g (blk_lt L.hb)).trans L.hb
  exact ⟨blk_cell hb 1, blk_cell hb 2, blk_cell hb 3, (L.h0.below h).rd (fun _ _ => trivial), (L.h1.below h).rd (fun _ _ => trivial), (L.h2.below h).rd (fun _ _ => trivial)⟩
theorem Three.of {w wr w2 : World} {m : M} {A B C : Option Addr} {a b c : Nat} (hB : Below w.heap.size w wr) (hb : Below wr.heap.size wr w2) (n0 : New wr w2 31 m.D (.slice A m.D.length a)) (n1 : New wr w2 31 m.R (.slice B m.R.length b)) (n2 : New wr w2 31 m.F (.slice C m.F.length c))
    (x01 : Apart (.slice A m.D.length a) (.slice B m.R.length b)) (x02 : Apart (.slice A m.D.length a) (.slice C m.F.length c)) (x12 : Apart (.slice B m.R.length b) (.slice C m.F.length c)) {w5 : World} (h5 : Below w2.heap.size w2 w5) :
    Three w (w5.alloc (.cells #[.slice A m.D.length a, .slice B m.R.length b, .slice C m.F.length c] 41 (0, 0))) w5.heap.size A B C a b c m.D.length m.R.length m.F.length :=
  have hs : w.heap.size ≤ wr.heap.size := hB.size
  ⟨⟨_, (n0.1.below h5).alloc _⟩, ⟨_, (n1.1.below h5).alloc _⟩, ⟨_, (n2.1.below h5).alloc _⟩, x01, x02, x12, fun q hq => Nat.le_trans hs (n0.2 q hq), fun q hq => Nat.le_trans hs (n1.2 q hq), fun q hq => Nat.le_trans hs (n2.2 q hq), blk_new rfl,
    (below_then (below_then hB hb) h5).alloc (Nat.le_trans hs (Nat.le_trans hb.size h5.size)) _⟩
set_option maxHeartbeats 8000000 in
theorem is_any {p r : Nat} {okp okr : Nat → Prop} {m : M} (w : World) (hp : At w 90 31 okp p m) (hr : At w 92 94 okr r m) :
    Calls Try.prog 17 #[.pointer (some ⟨p, 0, none⟩), .pointer (some ⟨r, 0, none⟩)] w fun e w' => e = .returned (.bool true) ∧ Below w.heap.size w w' := by
  have hs := hp.small
  have HP := hide hp
  have HR := hide hr
  obtain ⟨A, B, C, a, b, c, hbp⟩ := hp.slices
  obtain ⟨A', B', C', a', b', c', hl⟩ := hr.rlies
  have hbr := hl.hb
  have HL := hide hl
  have hsr := hr.small
  have p0 := blk_cell hbp 0
  have q0 := blk_cell hbr 0
  simp at p0 q0
  have hltp := blk_lt hbp
  have hltr := blk_lt hbr
  clear hp hr hbp hbr hl
  go_enter Try.func17, Try.ntmps17
  go_wp2
  go_quiet ((first | (go_at_call 24; exact Calls.quiet_of_same (plen_any _ (HP.out.below (below_drewN (Below.refl _ _) _)))) | (go_at_call 58; exact Calls.quiet_of (rlen_any _ (HR.out.below (below_drewN (Below.refl _ _) _)))) | (go_at_call 25; exact Calls.quiet_of_same (proom_any p m.room _ p0))))
  go_wp2
  go_loopw [5] (fun ti wr => ∃ t : Nat, t ≤ 2 ∧ ti = .int .i64 t ∧ Hid (Below w.heap.size w wr)) (fun ti _ => 2 - (intOf ti).toNat)
  case atStart => exact ⟨0, Nat.zero_le _, rfl, below_drewN (Below.refl _ _) _⟩
  case round =>
    obtain ⟨t, ht, rfl, HB⟩ := hrel
    by_cases hlt2 : t < 2
    · go_wp2_with fail
      go_at_call 22
      refine (rows_any _ (HP.out.below HB.out)).mono ?_
      rintro e w2 ⟨A2, a2, B2, b2, C2, c2, rfl, hb2, n0, n1, n2, x01, x02, x12⟩
      have HB2 := hide hb2
      have HW2 := hide (below_then HB.out hb2)
      have N0 := hide n0
      have N1 := hide n1
      have N2 := hide n2
      have X01 := hide x01
      have X02 := hide x02
      have X12 := hide x12
      obtain ⟨c1, c2', c3, D0, D1, D2⟩ := HL.out.ready HW2.out
      clear hb2 n0 n1 n2 x01 x02 x12
      go_wp2_with fail
      go_at_call 30
      refine (same_any m.D (by omega) _ (N0.out.1.rd (ok := fun _ => True) (fun _ _ => trivial)) D0.out).mono ?_
      rintro e w3 ⟨rfl, hb3⟩
      have HB3 := hide hb3
      have HW3 := hide (below_then HW2.out hb3)
      clear hb3 c1 c2' c3 D0 D1 D2
      obtain ⟨c1, c2', c3, D0, D1, D2⟩ := HL.out.ready HW3.out
      go_wp2_with fail
      go_at_call 30
      refine (same_any m.R (by omega) _ ((N1.out.1.below HB3.out).rd (ok := fun _ => True) (fun _ _ => trivial)) D1.out).mono ?_
      rintro e w4 ⟨rfl, hb4⟩
      have HB4 := hide (below_then HB3.out hb4)
      have HW4 := hide (below_then HW3.out hb4)
      clear hb4 c1 c2' c3 D0 D1 D2
      obtain ⟨c1, c2', c3, D0, D1, D2⟩ := HL.out.ready HW4.out
      go_wp2_with fail
      go_at_call 30
      refine (same_any m.F (by omega) _ ((N2.out.1.below HB4.out).rd (ok := fun _ => True) (fun _ _ => trivial)) D2.out).mono ?_
      rintro e w5 ⟨rfl, hb5⟩
      have HT := hide (Three.of HB.out HB2.out N0.out N1.out N2.out X01.out X02.out X12.out (below_then HB4.out hb5))
      clear hb5 c1 c2' c3 D0 D1 D2 HB2 HB3 HB4 HW2 HW3 HW4 N0 N1 N2 X01 X02 X12
      go_wp2_with fail
      refine wp_loop_rounds 4 ?_
      rw [rounds_succ]
      have e0 := blk_cell HT.out.hl 0
      simp at e0
      go_wp2
      go_loopw [11] (fun vi wr => ∃ j : Nat, j ≤ m.D.length ∧ vi = .int .i64 j ∧ Hid (Three w wr w5.heap.size A2 B2 C2 a2 b2 c2 m.D.length m.R.length m.F.length)) (fun vi _ => m.D.length - (intOf vi).toNat)
      case atStart => exact ⟨0, Nat.zero_le _, rfl, HT.out⟩
      case round =>
        clear HT e0
        obtain ⟨j0, hj0, rfl, HT0⟩ := hrel
        have e0 := blk_cell HT0.out.hl 0
        simp at e0
        by_cases hlt3 : j0 < m.D.length
        · obtain ⟨gr, o, hA⟩ := HT0.out.place0 (by omega)
          subst hA
          obtain ⟨⟨⟨u0, z0⟩, ⟨u1, z1⟩, ⟨u2, z2⟩, ⟨u3, z3⟩, hfr, hgl⟩, HT'⟩ := HT0.out.zap0 hlt3
          go_wp2
          go_roundw
          case rel => exact ⟨j0 + 1, by omega, by go_num, HT'.out⟩
          case measure => simp [intOf]; omega
        · go_wp2
          rw [rounds_succ]
          have e1 := blk_cell HT0.out.hl 1
          simp at e1
          go_wp2
          go_loopw [11] (fun vi wr => ∃ j : Nat, j ≤ m.R.length ∧ vi = .int .i64 j ∧ Hid (Three w wr w5.heap.size A2 B2 C2 a2 b2 c2 m.D.length m.R.length m.F.length)) (fun vi _ => m.R.length - (intOf vi).toNat)
          case atStart => exact ⟨0, Nat.zero_le _, rfl, HT0.out⟩
          case round =>
            clear HT0 e1
            obtain ⟨j1, hj1, rfl, HT1⟩ := hrel
            have e1 := blk_cell HT1.out.hl 1
            simp at e1
            by_cases hlt3 : j1 < m.R.length
            · obtain ⟨gr, o, hA⟩ := HT1.out.place1 (by omega)
              subst hA
              obtain ⟨⟨⟨u0, z0⟩, ⟨u1, z1⟩, ⟨u2, z2⟩, ⟨u3, z3⟩, hfr, hgl⟩, HT'⟩ := HT1.out.zap1 hlt3
              go_wp2
              go_roundw
              case rel => exact ⟨j1 + 1, by omega, by go_num, HT'.out⟩
              case measure => simp [intOf]; omega
            · go_wp2
              rw [rounds_succ]
              have e2 := blk_cell HT1.out.hl 2
              simp at e2
              go_wp2
              go_loopw [11] (fun vi wr => ∃ j : Nat, j ≤ m.F.length ∧ vi = .int .i64 j ∧ Hid (Three w wr w5.heap.size A2 B2 C2 a2 b2 c2 m.D.length m.R.length m.F.length)) (fun vi _ => m.F.length - (intOf vi).toNat)
              case atStart => exact ⟨0, Nat.zero_le _, rfl, HT1.out⟩
              case round =>
                clear HT1 e2
                obtain ⟨j2, hj2, rfl, HT2⟩ := hrel
                have e2 := blk_cell HT2.out.hl 2
                simp at e2
                by_cases hlt3 : j2 < m.F.length
                · obtain ⟨gr, o, hA⟩ := HT2.out.place2 (by omega)
                  subst hA
                  obtain ⟨⟨⟨u0, z0⟩, ⟨u1, z1⟩, ⟨u2, z2⟩, ⟨u3, z3⟩, hfr, hgl⟩, HT'⟩ := HT2.out.zap2 hlt3
                  go_wp2
                  go_roundw
                  case rel => exact ⟨j2 + 1, by omega, by go_num, HT'.out⟩
                  case measure => simp [intOf]; omega
                · go_wp2
                  rw [rounds_succ]
                  go_wp2
                  go_roundw
                  case rel => exact ⟨t + 1, by omega, by go_num, HT2.out.hB⟩
                  case measure => simp [intOf]; omega
    · go_wp2
      go_ret
      exact ⟨rfl, HB.out⟩
end Go.Proofs.Ytbobjecjopmnfaa
