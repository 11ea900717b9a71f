/- The walk of Next (the pool's). -/
import Derived.Test.YtbobjecjopmnfaaC6
import Derived.Deep.Light
namespace Go.Proofs.Ytbobjecjopmnfaa
open Go.RowKit
/-- The first event of a row that has one. -/
theorem Row.head {w : World} {e : TypeId} {x : Ev} {l : List Ev} {v : Value} (h : Row w e 4 v (l.length + 1) (cells (x :: l))) :
    ∃ g o c, v = .slice (some ⟨g, o, none⟩) (l.length + 1) c ∧ l.length + 1 ≤ c ∧ w.cell? ⟨g, o, none⟩ = some (.int .u8 x.k) ∧ w.cell? ⟨g, o + 1, none⟩ = some (.string x.nm) ∧ w.cell? ⟨g, o + 2, none⟩ = some (.int .i64 x.ar) ∧ w.cell? ⟨g, o + 3, none⟩ = some (.int .i64 x.pl) := by
  obtain ⟨A, c, rfl, hc⟩ := h.slice_
  obtain ⟨_, A', c', he, _, hr⟩ := h.rd (ok := fun _ => True) (fun _ _ => trivial)
  injection he with e1 _ e3
  subst e1; subst e3
  obtain ⟨ad, rfl, _, hcells⟩ := hr (by omega)
  obtain ⟨_, A', c', he, _, hr'⟩ := h
  injection he with e1 _ e3
  subst e1; subst e3
  obtain ⟨g, off, cur, hA, _⟩ := hr' (by omega)
  injection hA with hA
  subst hA
  have k : ∀ j u, j < 4 → (cells (x :: l))[j]? = some u → w.cell? ⟨g, off * 4 + j, none⟩ = some u := fun j u _ hu => by have := hcells j u hu; rwa [add_at] at this
  exact ⟨g, off * 4, c, rfl, hc, k 0 _ (by omega) rfl, k 1 _ (by omega) rfl, k 2 _ (by omega) rfl, k 3 _ (by omega) rfl⟩
/-- .. and what is left. -/
theorem Row.tail {w : World} {e : TypeId} {x : Ev} {l : List Ev} {A : Option Addr} {c : Nat} (h : Row w e 4 (.slice A (l.length + 1) c) (l.length + 1) (cells (x :: l))) :
    Row w e 4 (.slice (if c = 1 then A else A.map (·.add 4)) l.length (c - 1)) l.length (cells l) ∧ ∀ b, Fp (.slice (if c = 1 then A else A.map (·.add 4)) l.length (c - 1)) b → Fp (.slice A (l.length + 1) c) b := by
  have := h.drop (k := 1) (by omega)
  rw [cells_drop] at this
  simpa using this

set_option maxHeartbeats 1000000 in
theorem next_raw0 (g gd o c : Nat) (room : Int) (x : Ev) (n : Nat) (v1 v2 : Value) (w : World) (hg : w.heap[g]? = some (.cells #[.int .i64 room, .slice (some ⟨gd, o, none⟩) (n + 1) c, v1, v2] 90 (0, 0)))
    (hc : n + 1 ≤ c) (hn : n ≤ 1000) (k0 : w.cell? ⟨gd, o, none⟩ = some (.int .u8 x.k)) (k1 : w.cell? ⟨gd, o + 1, none⟩ = some (.string x.nm)) (k2 : w.cell? ⟨gd, o + 2, none⟩ = some (.int .i64 x.ar)) (k3 : w.cell? ⟨gd, o + 3, none⟩ = some (.int .i64 x.pl))
    (hne : g ≠ gd) :
    Calls Try.prog 23 #[.pointer (some ⟨g, 0, none⟩)] w fun e w' => e = .returned (.tuple #[.agg #[.int .u8 x.k, .string x.nm, .int .i64 x.ar, .int .i64 x.pl], .bool true]) ∧
      w' = ((w.setCell ⟨g, 1, none⟩ (.slice (if c = 1 then some ⟨gd, o, none⟩ else (some (⟨gd, o, none⟩ : Addr)).map (·.add 4)) n (c - 1))).alloc (.cells #[.int .u8 x.k, .string x.nm, .int .i64 x.ar, .int .i64 x.pl] 31)).drew := by
  have hlt := blk_lt hg
  have c1 := blk_cell hg 1
  have c2 := blk_cell hg 2
  have f1 := blk_frozen hg 1
  simp at c1 c2
  have hltd := World.block_lt_of_cell? w _ k0
  simp only at hltd
  clear hg
  go_enter Try.func23, Try.ntmps23
  go_wp2
  refine wp_loop_rounds 1 ?_
  rw [rounds_succ]
  go_wp2
  go_region
  all_goals
    go_wp2
    all_goals
      refine bodyPost_ret (v := .tuple #[.agg #[.int .u8 x.k, .string x.nm, .int .i64 x.ar, .int .i64 x.pl], .bool true]) (by simp [results, Try.results23, go_sem]) rfl ⟨rfl, ?_⟩
      simp_all

set_option maxHeartbeats 1000000 in
theorem next_raw1 (g gd o c : Nat) (room : Int) (x : Ev) (n : Nat) (A0 : Option Addr) (a0 : Nat) (v2 : Value) (w : World) (hg : w.heap[g]? = some (.cells #[.int .i64 room, .slice A0 0 a0, .slice (some ⟨gd, o, none⟩) (n + 1) c, v2] 90 (0, 0)))
    (hc : n + 1 ≤ c) (hn : n ≤ 1000) (k0 : w.cell? ⟨gd, o, none⟩ = some (.int .u8 x.k)) (k1 : w.cell? ⟨gd, o + 1, none⟩ = some (.string x.nm)) (k2 : w.cell? ⟨gd, o + 2, none⟩ = some (.int .i64 x.ar)) (k3 : w.cell? ⟨gd, o + 3, none⟩ = some (.int .i64 x.pl))
    (hne : g ≠ gd) :
    Calls Try.prog 23 #[.pointer (some ⟨g, 0, none⟩)] w fun e w' => e = .returned (.tuple #[.agg #[.int .u8 x.k, .string x.nm, .int .i64 x.ar, .int .i64 x.pl], .bool true]) ∧
      w' = ((w.setCell ⟨g, 2, none⟩ (.slice (if c = 1 then some ⟨gd, o, none⟩ else (some (⟨gd, o, none⟩ : Addr)).map (·.add 4)) n (c - 1))).alloc (.cells #[.int .u8 x.k, .string x.nm, .int .i64 x.ar, .int .i64 x.pl] 31)).drew := by
  have hlt := blk_lt hg
  have c1 := blk_cell hg 1
  have c2 := blk_cell hg 2
  have f1 := blk_frozen hg 2
  simp at c1 c2
  have hltd := World.block_lt_of_cell? w _ k0
  simp only at hltd
  clear hg
  go_enter Try.func23, Try.ntmps23
  go_wp2
  refine wp_loop_rounds 2 ?_
  rw [rounds_succ]
  go_wp2
  rw [rounds_succ]
  go_wp2
  go_region
  all_goals
    go_wp2
    all_goals
      refine bodyPost_ret (v := .tuple #[.agg #[.int .u8 x.k, .string x.nm, .int .i64 x.ar, .int .i64 x.pl], .bool true]) (by simp [results, Try.results23, go_sem]) rfl ⟨rfl, ?_⟩
      simp_all

theorem next_none (g a0 a1 : Nat) (room : Int) (A0 A1 : Option Addr) (v2 : Value) (w : World) (hg : w.heap[g]? = some (.cells #[.int .i64 room, .slice A0 0 a0, .slice A1 0 a1, v2] 90 (0, 0))) :
    Calls Try.prog 23 #[.pointer (some ⟨g, 0, none⟩)] w fun e w' => e = .returned (.tuple #[.agg #[.int .u8 0, .string ⟨#[]⟩, .int .i64 0, .int .i64 0], .bool false]) ∧ Below w.heap.size w w' := by
  have hlt := blk_lt hg
  have c1 := blk_cell hg 1
  have c2 := blk_cell hg 2
  simp at c1 c2
  clear hg
  go_enter Try.func23, Try.ntmps23
  go_wp2
  refine wp_loop_rounds 3 ?_
  rw [rounds_succ]
  go_wp2
  rw [rounds_succ]
  go_wp2
  rw [rounds_succ]
  go_wp2
  refine bodyPost_ret (v := .tuple #[.agg #[.int .u8 0, .string ⟨#[]⟩, .int .i64 0, .int .i64 0], .bool false]) (by simp [results, Try.results23, go_sem]) rfl ⟨rfl, ?_⟩
  exact (Below.refl _ _).alloc (Nat.le_refl _) _
theorem next_nil (w : World) :
    Calls Try.prog 23 #[.pointer none] w fun e w' => e = .returned (.tuple #[.agg #[.int .u8 0, .string ⟨#[]⟩, .int .i64 0, .int .i64 0], .bool false]) ∧ Below w.heap.size w w' := by
  go_enter Try.func23, Try.ntmps23
  go_wp2
  refine bodyPost_ret (v := .tuple #[.agg #[.int .u8 0, .string ⟨#[]⟩, .int .i64 0, .int .i64 0], .bool false]) (by simp [results, Try.results23, go_sem]) rfl ⟨rfl, ?_⟩
  exact (Below.refl _ _).alloc (Nat.le_refl _) _
theorem next_any {g : Nat} {m : M} {ok : Nat → Prop} (w : World) (h : At w 90 31 ok g m) :
    Calls Try.prog 23 #[.pointer (some ⟨g, 0, none⟩)] w fun e w' => e = .returned (.tuple #[m.next.2.1.val, .bool m.next.2.2]) ∧ Turned 90 31 ok g m.next.1 w w' := by
  have hs := h.small
  have h' := h
  obtain ⟨v0, v1, v2, hb, h0, h1, h2, a01, a02, a12, hok, hltok, hOk⟩ := h
  obtain ⟨room, D, R, F⟩ := m
  simp only at hb h0 h1 h2 hs
  cases D with
  | cons x D =>
    obtain ⟨gd, o, c, rfl, hc, k0, k1, k2, k3⟩ := h0.head
    have hne : g ≠ gd := fun e => by subst e; exact h0.ne_ hb (by decide) ⟨_, _, _, rfl, by omega, rfl⟩
    simp only [List.length_cons] at hs
    refine (next_raw0 g gd o c room x D.length v1 v2 w hb hc (by omega) k0 k1 k2 k3 hne).mono ?_
    rintro e w' ⟨rfl, rfl⟩
    refine ⟨rfl, ?_⟩
    obtain ⟨ht, hft⟩ := h0.tail
    refine Turned.after ?_ (((Below.refl _ _).alloc (Nat.le_refl _) _).drew)
    refine At.stored (m' := ⟨room, D, R, F⟩) hb (Below.refl _ _) (Only.one _ _ _ _) (blk_set hb 1 _) ht h1 h2 (fun b h h' => a01 b (hft b h) h') (fun b h h' => a02 b (hft b h) h') a12 ?_ (hok _ (.inl rfl)) hltok (by decide) ⟨hOk.lo, hOk.hi, ?_, hOk.calls⟩
    · rintro b (h | h | h)
      · exact .inl (hok b (.inr (.inl (hft b h))))
      · exact .inl (hok b (.inr (.inr (.inl h))))
      · exact .inl (hok b (.inr (.inr (.inr h))))
    · have := hOk.fits
      simp only [M.len, List.length_cons] at *
      omega
  | nil =>
    obtain ⟨A0, a0, rfl, _⟩ := h0.slice_
    cases R with
    | cons x R =>
      obtain ⟨gd, o, c, rfl, hc, k0, k1, k2, k3⟩ := h1.head
      have hne : g ≠ gd := fun e => by subst e; exact h1.ne_ hb (by decide) ⟨_, _, _, rfl, by omega, rfl⟩
      simp only [List.length_cons] at hs
      refine (next_raw1 g gd o c room x R.length A0 a0 v2 w hb hc (by omega) k0 k1 k2 k3 hne).mono ?_
      rintro e w' ⟨rfl, rfl⟩
      refine ⟨rfl, ?_⟩
      obtain ⟨ht, hft⟩ := h1.tail
      refine Turned.after ?_ (((Below.refl _ _).alloc (Nat.le_refl _) _).drew)
      refine At.stored (m' := ⟨room, [], R, F⟩) hb (Below.refl _ _) (Only.one _ _ _ _) (blk_set hb 2 _) h0 ht h2 (fun b h h' => a01 b h (hft b h')) a02 (fun b h h' => a12 b (hft b h) h') ?_ (hok _ (.inl rfl)) hltok (by decide) ⟨hOk.lo, hOk.hi, ?_, hOk.calls⟩
      · rintro b (h | h | h)
        · exact .inl (hok b (.inr (.inl h)))
        · exact .inl (hok b (.inr (.inr (.inl (hft b h)))))
        · exact .inl (hok b (.inr (.inr (.inr h))))
      · have := hOk.fits
        simp only [M.len, List.length_cons] at *
        omega
    | nil =>
      obtain ⟨A1, a1, rfl, _⟩ := h1.slice_
      exact (next_none g a0 a1 room A0 A1 v2 w hb).mono fun e w' ⟨h3, h4⟩ => ⟨h3, Turned.of_below h' h4⟩
end Go.Proofs.Ytbobjecjopmnfaa
