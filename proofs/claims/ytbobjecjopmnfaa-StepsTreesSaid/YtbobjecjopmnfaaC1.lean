/- Walks: New, May (both), Room, Len (both), ref, Pick. -/
import Derived.Test.YtbobjecjopmnfaaB
import Derived.Outline
import Derived.WalkSpells
import Derived.WalkLawsBesides
import Derived.Laws.StructEq
import Derived.LoopN
import Derived.Deep.QuietTactic
import Derived.BigQuiet
namespace Go.Proofs.Ytbobjecjopmnfaa
open Go.RowKit

section
variable {P : Program} {d : Nat} {xs ys : Array Value} {f : Field} {fs : List Field} {a b : Value} {r s : Bool} {w : World}
theorem eqf_last (hn : (f.name == "_") = false) (ha : (part f.type xs f.offset).run P w = .ok a w) (hb : (part f.type ys f.offset).run P w = .ok b w) (he : (Op.equalIn d f.type a b).run P w = .ok r w) : (Op.eqFields d xs ys [f]).run P w = .ok r w := by
  have hn' : f.name ≠ "_" := by simpa using hn
  simp only [Op.eqFields, if_pos hn', Sem.run_bind, ha, hb, he, Result.andThen_ok]
  cases r <;> simp
theorem eqf_cons (hn : (f.name == "_") = false) (ha : (part f.type xs f.offset).run P w = .ok a w) (hb : (part f.type ys f.offset).run P w = .ok b w) (he : (Op.equalIn d f.type a b).run P w = .ok r w) (hr : (Op.eqFields d xs ys fs).run P w = .ok s w) : (Op.eqFields d xs ys (f :: fs)).run P w = .ok (r && s) w := by
  have hn' : f.name ≠ "_" := by simpa using hn
  rw [Op.eqFields]
  simp only [if_pos hn', Sem.run_bind, ha, hb, he, Result.andThen_ok]
  cases r
  · simp
  · simpa using hr
theorem eqA_of {t : TypeId} {fs : Array Field} (hu : P.underlying t = some (.struct fs)) (hp : P.stoodInHeld t = false) (h : (Op.eqFields d xs ys fs.toList).run P w = .ok r w) : (Op.equalIn (d + 1) t (.agg xs) (.agg ys)).run P w = .ok r w := by
  have hf : P.fieldsOf t = fs := by simp [Program.fieldsOf, hu]
  rw [run_equalIn_struct (P := P) w d t xs ys (by rw [hf]; exact hu) hp, hf]
  exact h
end
theorem eqA31 (d : Nat) (w : World) (x0 y0 : Int) (x1 y1 : ByteArray) (x2 y2 : Int) (x3 y3 : Int) :
    (Op.equalIn (d + 2) 31 (.agg #[.int .u8 x0, .string x1, .int .i64 x2, .int .i64 x3]) (.agg #[.int .u8 y0, .string y1, .int .i64 y2, .int .i64 y3])).run Try.prog w = .ok (x0 == y0 && (x1.toList == y1.toList && (x2 == y2 && (x3 == y3)))) w := by
  refine eqA_of Try.underlying31 (by kernel_rfl) ?_
  refine eqf_cons (by rfl) (by go_simp; rfl) (by go_simp; rfl) (by go_simp) ?_
  refine eqf_cons (by rfl) (by go_simp; rfl) (by go_simp; rfl) (by go_simp) ?_
  refine eqf_cons (by rfl) (by go_simp; rfl) (by go_simp; rfl) (by go_simp) ?_
  exact eqf_last (by rfl) (by go_simp; rfl) (by go_simp; rfl) (by go_simp)
theorem eqA94 (d : Nat) (w : World) (x0 y0 : Int) (x1 y1 : ByteArray) (x2 y2 : Int) (x3 y3 : Int) :
    (Op.equalIn (d + 2) 94 (.agg #[.int .u8 x0, .string x1, .int .i64 x2, .int .i64 x3]) (.agg #[.int .u8 y0, .string y1, .int .i64 y2, .int .i64 y3])).run Try.prog w = .ok (x0 == y0 && (x1.toList == y1.toList && (x2 == y2 && (x3 == y3)))) w := by
  refine eqA_of Try.underlying94 (by kernel_rfl) ?_
  refine eqf_cons (by rfl) (by go_simp; rfl) (by go_simp; rfl) (by go_simp) ?_
  refine eqf_cons (by rfl) (by go_simp; rfl) (by go_simp; rfl) (by go_simp) ?_
  refine eqf_cons (by rfl) (by go_simp; rfl) (by go_simp; rfl) (by go_simp) ?_
  exact eqf_last (by rfl) (by go_simp; rfl) (by go_simp; rfl) (by go_simp)


theorem mx (a b : Int) : (if a < b then b else a) = max a b := by omega
section
attribute [local go_sem high] eqA31
set_option linter.unusedSimpArgs false
theorem pmay_any (k : Int) (nm : ByteArray) (ar pl : Int) (w : World) :
    Calls Try.prog 55 #[.agg #[.int .u8 k, .string nm, .int .i64 ar, .int .i64 pl]] w fun e w' => e = .returned (.bool (may ⟨k, nm, ar, pl⟩)) ∧ Below w.heap.size w w' := by
  go_enter Try.func55, Try.ntmps55
  go_wp2
  all_goals
    go_ret
    refine ⟨?_, (Below.refl _ _).alloc (Nat.le_refl _) _⟩
    simp_all [may, Int.not_le]
    try omega
theorem rmay_any (k : Int) (nm : ByteArray) (ar pl : Int) (w : World) :
    Calls Try.prog 56 #[.agg #[.int .u8 k, .string nm, .int .i64 ar, .int .i64 pl]] w fun e w' => e = .returned (.bool (may ⟨k, nm, ar, pl⟩)) ∧ Below w.heap.size w w' := by
  go_enter Try.func56, Try.ntmps56
  go_wp2
  all_goals
    go_ret
    refine ⟨?_, (Below.refl _ _).alloc (Nat.le_refl _) _⟩
    simp_all [may, Int.not_le]
    try omega
end

/-! ### A new pool -/
def pool0 (room : Int) (t : TypeId) : Obj := .cells #[.int .i64 (max 1 (min room 256)), .slice none 0 0, .slice none 0 0, .slice none 0 0] t
theorem At.fresh (room : Int) (t e : TypeId) (w : World) : At (w.alloc (pool0 room t)) t e (fun b => b = w.heap.size) w.heap.size (M.fresh room) := by
  refine ⟨_, _, _, heap_alloc_new w _, Row.nil _ _ _, Row.nil _ _ _, Row.nil _ _ _, fun b h => (Fp_none h).elim, fun b h => (Fp_none h).elim, fun b h => (Fp_none h).elim, ?_, ?_, ?_⟩
  · rintro b (h | h | h | h)
    · exact h
    all_goals exact (Fp_none h).elim
  · rintro b rfl
    simp
  · exact ⟨by simp [M.fresh]; omega, by simp [M.fresh]; omega, by simp [M.fresh, M.len]; omega, fun e he => by simp [M.fresh] at he⟩
theorem pnew_any (room : Int) (w : World) :
    Calls Try.prog 14 #[.int .i64 room] w fun e w' => e = .returned (.pointer (some ⟨w.heap.size, 0, none⟩)) ∧ w' = w.alloc (pool0 room 90) := by
  go_enter Try.func14, Try.ntmps14
  go_wp2
  all_goals
    go_ret
    refine ⟨rfl, ?_⟩
    unfold pool0
    congr 5
    omega
theorem rnew_any (room : Int) (w : World) :
    Calls Try.prog 15 #[.int .i64 room] w fun e w' => e = .returned (.pointer (some ⟨w.heap.size, 0, none⟩)) ∧ w' = w.alloc (pool0 room 92) := by
  go_enter Try.func15, Try.ntmps15
  go_wp2
  all_goals
    go_ret
    refine ⟨rfl, ?_⟩
    unfold pool0
    congr 5
    omega
theorem proom_any (g : Nat) (room : Int) (w : World) (h : w.cell? ⟨g, 0, none⟩ = some (.int .i64 room)) :
    Calls Try.prog 25 #[.pointer (some ⟨g, 0, none⟩)] w fun e w' => e = .returned (.int .i64 room) ∧ w' = w := by
  go_enter Try.func25, Try.ntmps25
  go_wp2
  go_ret
  exact ⟨rfl, rfl⟩
theorem At.slices {w : World} {t e : TypeId} {ok : Nat → Prop} {p : Nat} {m : M} (h : At w t e ok p m) : ∃ A B C a b c, w.heap[p]? = some (.cells #[.int .i64 m.room, .slice A m.D.length a, .slice B m.R.length b, .slice C m.F.length c] t (0, 0)) := by
  obtain ⟨v0, v1, v2, h1, h2, h3, h4, _⟩ := h
  obtain ⟨A, a, rfl, _⟩ := h2.slice_
  obtain ⟨B, b, rfl, _⟩ := h3.slice_
  obtain ⟨C, c, rfl, _⟩ := h4.slice_
  exact ⟨A, B, C, a, b, c, h1⟩
theorem plen_raw (g : Nat) (A B C : Option Addr) (na nb nc ca cb cc : Nat) (w : World) (hn : na + nb + nc ≤ 1000)
    (h1 : w.cell? ⟨g, 1, none⟩ = some (.slice A na ca)) (h2 : w.cell? ⟨g, 2, none⟩ = some (.slice B nb cb)) (h3 : w.cell? ⟨g, 3, none⟩ = some (.slice C nc cc)) :
    Calls Try.prog 24 #[.pointer (some ⟨g, 0, none⟩)] w fun e w' => e = .returned (.int .i64 ((na : Int) + nb + nc)) ∧ w' = w := by
  have i0 : ∀ w, (Instr.index 88 (.agg #[.slice A na ca, .slice B nb cb, .slice C nc cc]) (.int .i64 0)).run Try.prog w = .ok (.slice A na ca) w := fun _ => by kernel_rfl
  have i1 : ∀ w, (Instr.index 88 (.agg #[.slice A na ca, .slice B nb cb, .slice C nc cc]) (.int .i64 1)).run Try.prog w = .ok (.slice B nb cb) w := fun _ => by kernel_rfl
  have i2 : ∀ w, (Instr.index 88 (.agg #[.slice A na ca, .slice B nb cb, .slice C nc cc]) (.int .i64 2)).run Try.prog w = .ok (.slice C nc cc) w := fun _ => by kernel_rfl
  go_enter Try.func24, Try.ntmps24
  go_wp2
  refine wp_loop_rounds 4 ?_
  rw [rounds_succ]; go_wp2
  rw [rounds_succ]; go_wp2
  rw [rounds_succ]; go_wp2
  rw [rounds_succ]; go_wp2
  go_ret
  exact ⟨rfl, rfl⟩
theorem At.small {w : World} {t e : TypeId} {ok : Nat → Prop} {p : Nat} {m : M} (h : At w t e ok p m) : m.D.length + m.R.length + m.F.length ≤ 256 := by
  have h1 := h.ok.fits
  have h2 := h.ok.hi
  simp only [M.len] at h1
  omega
theorem plen_any {g : Nat} {m : M} {ok : Nat → Prop} (w : World) (h : At w 90 31 ok g m) :
    Calls Try.prog 24 #[.pointer (some ⟨g, 0, none⟩)] w fun e w' => e = .returned (.int .i64 m.len) ∧ w' = w := by
  obtain ⟨A, B, C, a, b, c, hb⟩ := h.slices
  have hs := h.small
  refine (plen_raw g A B C _ _ _ a b c w (by omega) (blk_cell hb 1) (blk_cell hb 2) (blk_cell hb 3)).mono ?_
  rintro e w' ⟨rfl, rfl⟩
  exact ⟨by simp only [M.len]; congr 2, rfl⟩
theorem rlen_raw (g : Nat) (A B C : Option Addr) (na nb nc ca cb cc : Nat) (w : World) (hn : na + nb + nc ≤ 1000)
    (h1 : w.cell? ⟨g, 1, none⟩ = some (.slice A na ca)) (h2 : w.cell? ⟨g, 2, none⟩ = some (.slice B nb cb)) (h3 : w.cell? ⟨g, 3, none⟩ = some (.slice C nc cc)) :
    Calls Try.prog 58 #[.pointer (some ⟨g, 0, none⟩)] w fun e w' => e = .returned (.int .i64 ((na : Int) + nb + nc)) ∧ ∃ n, w' = w.drewN n := by
  go_enter Try.func58, Try.ntmps58
  go_wp2
  go_quiet (fail)
  go_wp2
  go_ret
  exact ⟨by simp, _, rfl⟩
theorem rlen_any {g : Nat} {m : M} {ok : Nat → Prop} (w : World) (h : At w 92 94 ok g m) :
    Calls Try.prog 58 #[.pointer (some ⟨g, 0, none⟩)] w fun e w' => e = .returned (.int .i64 m.len) ∧ ∃ n, w' = w.drewN n := by
  obtain ⟨A, B, C, a, b, c, hb⟩ := h.slices
  have hs := h.small
  refine (rlen_raw g A B C _ _ _ a b c w (by omega) (blk_cell hb 1) (blk_cell hb 2) (blk_cell hb 3)).mono ?_
  rintro e w' ⟨rfl, h⟩
  exact ⟨by simp only [M.len]; congr 2, h⟩
theorem pick_eq (i n : Int) (hn : 0 < n) (hn1 : n ≤ 1000) : (wrap64 (i.tmod n + n)).tmod n = i % n := by
  have h1 := Int.tmod_lt_of_pos i hn
  have h2 : -n < i.tmod n := by
    have h3 := Int.tmod_lt_of_pos (-i) hn
    rw [Int.neg_tmod] at h3
    omega
  have h4 : wrap64 (i.tmod n + n) = i.tmod n + n := by unfold wrap64; omega
  rw [h4, Int.tmod_eq_emod_of_nonneg (by omega), Int.add_emod_right]
  have h5 : i.tmod n = i - n * i.tdiv n := by have := Int.mul_tdiv_add_tmod i n; omega
  rw [h5, Int.sub_mul_emod_self_left]
theorem pick_any (i : Int) (w : World) (n : Int) (hn : 0 < n) (hn1 : n ≤ 1000) :
    Calls Try.prog 18 #[.int .i64 i, .int .i64 n] w fun e w' => e = .returned (.int .i64 (i % n)) ∧ w' = w := by
  go_enter Try.func18, Try.ntmps18
  go_wp2
  go_ret
  exact ⟨by rw [← pick_eq i n hn hn1]; rfl, rfl⟩
theorem ref_any (k : Int) (nm : ByteArray) (ar pl : Int) (w : World) :
    Calls Try.prog 51 #[.agg #[.int .u8 k, .string nm, .int .i64 ar, .int .i64 pl]] w fun e w' => e = .returned (.agg #[.int .u8 k, .string nm, .int .i64 ar, .int .i64 pl]) ∧ Below w.heap.size w w' := by
  go_enter Try.func51, Try.ntmps51
  go_wp2
  refine bodyPost_ret (v := .agg #[.int .u8 k, .string nm, .int .i64 ar, .int .i64 pl]) (by simp [results, Try.results51, go_sem]) rfl ⟨rfl, ?_⟩
  exact ((Below.refl _ _).alloc (Nat.le_refl _) _).alloc (by simp) _
end Go.Proofs.Ytbobjecjopmnfaa
