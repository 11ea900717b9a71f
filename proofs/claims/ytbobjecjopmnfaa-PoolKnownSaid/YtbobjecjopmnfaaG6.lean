/- The walk of PoolAgain. -/
import Derived.Test.YtbobjecjopmnfaaG3
namespace Go.Proofs.Ytbobjecjopmnfaa
open Go.RowKit
/-- Each row's events may stand in it. -/
def M.Good (m : M) : Prop := m.D.all (good 0) = true ∧ m.R.all (good 1) = true ∧ m.F.all (good 2) = true
theorem all_append {p : Ev → Bool} {a b : List Ev} (h : a.all p = true) (k : b.all p = true) : (a ++ b).all p = true := by rw [List.all_append, h, k]; rfl
theorem all_filter {p q : Ev → Bool} {a : List Ev} (h : a.all p = true) : (a.filter q).all p = true := by
  rw [List.all_eq_true] at *
  intro x hx
  exact h x (List.mem_filter.1 hx).1
theorem all_imp {p q : Ev → Bool} {a : List Ev} (h : a.all p = true) (k : ∀ e, p e = true → q e = true) : a.all q = true := by
  rw [List.all_eq_true] at *
  intro x hx
  exact k x (h x hx)
theorem good_21 (e : Ev) (h : good 2 e = true) : good 1 e = true := by
  simp [good] at *
  obtain ⟨h1, h2, h3⟩ := h
  exact ⟨h1, h2⟩
theorem M.Good.fresh (room : Int) : (M.fresh room).Good := ⟨rfl, rfl, rfl⟩
theorem M.Good.put {m : M} (h : m.Good) (e : Ev) : (m.put e).1.Good := by
  unfold M.put
  split
  · exact h
  · rename_i hm
    have hm : may e = true := by simpa using hm
    split
    · exact h
    · split
      · rename_i hk
        exact ⟨all_append h.1 (by simp [good, hm, hk]), h.2.1, h.2.2⟩
      · rename_i hk
        exact ⟨h.1, all_append h.2.1 (by simp [good, hm, hk]), h.2.2⟩
theorem M.Good.defer {m : M} (h : m.Good) (e : Ev) : (m.defer e).1.Good := by
  unfold M.defer
  split
  · exact h
  · rename_i hm
    have hm' : may e = true ∧ e.k = 2 := by simpa using hm
    split
    · exact h
    · exact ⟨h.1, h.2.1, all_append h.2.2 (by simp [good, hm'.1, hm'.2])⟩
theorem M.Good.recall {m : M} (h : m.Good) : m.recall.1.Good := ⟨h.1, all_append (all_imp h.2.2 good_21) h.2.1, rfl⟩
theorem M.Good.next {m : M} (h : m.Good) : m.next.1.Good := by
  obtain ⟨room, D, R, F⟩ := m
  obtain ⟨h1, h2, h3⟩ := h
  cases D with
  | cons e D =>
    simp only [List.all_cons, Bool.and_eq_true] at h1
    exact ⟨h1.2, h2, h3⟩
  | nil =>
    cases R with
    | cons e R =>
      simp only [List.all_cons, Bool.and_eq_true] at h2
      exact ⟨h1, h2.2, h3⟩
    | nil => exact ⟨h1, h2, h3⟩
theorem M.Good.gone {m : M} (h : m.Good) (k pl : Int) : (m.gone k pl).1.Good := by
  unfold M.gone
  split
  · exact h
  · exact ⟨all_filter h.1, all_filter h.2.1, h.2.2⟩
theorem M.Good.act {m : M} (h : m.Good) (a : Act) : (m.act a).Good := by
  unfold M.act
  split
  · exact h.defer _
  · split
    · exact h.recall
    · split
      · exact h.next
      · split
        · exact h.gone _ _
        · exact h.put _
theorem ofM_self {m : M} (h : m.Good) (k : m.Ok) : ofM m.room m.D m.R m.F = (some m, 0) := by
  unfold ofM
  have e : max 1 (min m.room 256) = m.room := by have := k.lo; have := k.hi; omega
  rw [if_pos (show _ ∧ _ ∧ _ from h), e, if_neg (by have := k.fits; unfold M.len at this; omega)]
/-- Another pool of the same rows, beside the reference. -/
theorem Duo.other {B p q r : Nat} {w0 w w1 : World} {m n : M} {bx : List (Nat × Obj)} {ok : Nat → Prop} (D : Duo B w0 w p r m n bx) (hb : Below w.heap.size w w1) (hq : At w1 90 31 ok q m) (hn : ∀ b, ok b → w.heap.size ≤ b) : Duo B w0 w1 q r m n [] := by
  obtain ⟨h0, h1, okp, okr, hp, hr, dis, np, nr, hx⟩ := D
  have hBw : B ≤ w.heap.size := Nat.le_trans h0 h1.size
  exact ⟨h0, h1.trans (hb.mono hBw), ok, okr, hq, hr.below hb, fun b h h' => absurd (hr.lt b h') (Nat.not_lt.2 (hn b h)), fun b h => Nat.le_trans hBw (hn b h), nr, fun x h => by cases h⟩
theorem Duo.atP {B p r : Nat} {w0 w : World} {m n : M} {bx : List (Nat × Obj)} (D : Duo B w0 w p r m n bx) : ∃ ok, At w 90 31 ok p m := by
  obtain ⟨h0, h1, okp, okr, hp, hr, dis, np, nr, hx⟩ := D
  exact ⟨okp, hp⟩
set_option maxHeartbeats 4000000 in
theorem again_any {ok ok' : Nat → Prop} {A1 A2 : Option Addr} {c1 c2 : Nat} (room : Int) (l1 l2 : List Act) (w : World) (h1 : Rd w ok 5 (.slice A1 l1.length c1) l1.length (acells l1)) (h2 : Rd w ok' 5 (.slice A2 l2.length c2) l2.length (acells l2)) :
    Calls Try.prog 7 #[.int .i64 room, .slice A1 l1.length c1, .slice A2 l2.length c2] w fun e w' => e = .returned (.bool true) ∧ Below w.heap.size w w' := by
  have H1 := hide h1
  have H2 := hide h2
  clear h1 h2
  go_enter Try.func7, Try.ntmps7
  go_wp2_with fail
  go_at_call 12
  refine (few_any l1 60 (by omega) _ H1.out).mono ?_
  rintro e w1 ⟨b, rfl, hf, hw⟩
  have hw' := hw.symm
  subst hw'
  clear hw
  cases b
  · clear hf
    go_wp2_with fail
    go_at_call 13
    refine (works_any _).mono ?_
    rintro e w2 ⟨rfl, hb2⟩
    have HB2 := hide hb2
    clear hb2
    go_wp2
    go_ret
    exact ⟨rfl, HB2.out⟩
  have hl1 := (hf rfl).1
  clear hf
  go_wp2_with fail
  go_at_call 12
  refine (few_any l2 60 (by omega) _ H2.out).mono ?_
  rintro e w1 ⟨b, rfl, hf, hw⟩
  have hw' := hw.symm
  subst hw'
  clear hw
  cases b
  · clear hf
    go_wp2_with fail
    go_at_call 13
    refine (works_any _).mono ?_
    rintro e w2 ⟨rfl, hb2⟩
    have HB2 := hide hb2
    clear hb2
    go_wp2
    go_ret
    exact ⟨rfl, HB2.out⟩
  have hl2 := (hf rfl).1
  clear hf
  have D0 := hide (Duo.new room w)
  go_wp2_with fail
  go_at_call 14
  refine (pnew_any _ _).mono ?_
  rintro e _ ⟨rfl, rfl⟩
  go_wp2_with fail
  go_at_call 15
  refine (rnew_any _ _).mono ?_
  rintro e _ ⟨rfl, rfl⟩
  go_wp2
  go_loopw [9] (fun vi wr => ∃ (j : Nat) (m : M), j ≤ l1.length ∧ vi = .int .i64 j ∧ Hid (Duo w.heap.size w wr w.heap.size (w.heap.size + 1) m m []) ∧ Hid m.Good) (fun vi _ => l1.length - (intOf vi).toNat)
  case atStart => exact ⟨0, _, Nat.zero_le _, rfl, D0.out, M.Good.fresh room⟩
  case round =>
    clear D0
    obtain ⟨j, m, hj, rfl, D, G⟩ := hrel
    by_cases hlt2 : j < l1.length
    · obtain ⟨ad, hA, hltd, x0, x1, x2, x3, x4⟩ := (H1.out.below D.out.2.1).geta j hlt2 (by omega)
      obtain ⟨x, hx⟩ : ∃ x, x = l1[j] := ⟨_, rfl⟩
      rw [← hx] at x0 x1 x2 x3 x4
      subst hA
      clear hx
      obtain ⟨kd, k, nm, ar, pl⟩ := x
      simp only at x0 x1 x2 x3 x4
      go_wp2_with (first | ((go_at_call 16); (refine (does_any kd k nm ar pl _ D.out).mono ?_); rintro e w2 ⟨rfl, d2⟩; have D2 := hide d2; clear d2))
      go_roundw
      case rel => exact ⟨j + 1, _, by omega, by go_num, D2.out, G.out.act _⟩
      case measure => simp [intOf]; omega
    · obtain ⟨okp, hp⟩ := D.out.atP
      have hs := hp.small
      have HK := hide hp.ok
      have HP := hide hp
      obtain ⟨Aa, Ab, Ac, ca, cb, cc, hbp⟩ := hp.slices
      have HBP := hide hbp
      clear hp hbp
      go_wp2_with fail
      go_at_call 22
      refine (rows_any _ HP.out).mono ?_
      rintro e w2 ⟨B1, b1, B2, b2, B3, b3, rfl, hb2, n0, n1, n2, -, -, -⟩
      have p0 := blk_cell ((hb2.block _ (blk_lt HBP.out)).trans HBP.out) 0
      simp at p0
      have HB2 := hide hb2
      have N0 := hide (n0.1.rd (ok := fun _ => True) (fun _ _ => trivial))
      have N1 := hide (n1.1.rd (ok := fun _ => True) (fun _ _ => trivial))
      have N2 := hide (n2.1.rd (ok := fun _ => True) (fun _ _ => trivial))
      have D2 := hide (D.out.below hb2)
      clear hb2 n0 n1 n2
      go_wp2_with fail
      go_at_call 25
      refine (proom_any _ m.room _ p0).mono ?_
      rintro e _ ⟨rfl, rfl⟩
      go_wp2_with fail
      go_at_call 28
      refine (of_any m.room m.D m.R m.F _ N0.out N1.out N2.out (by omega) (by omega) (by omega)).mono ?_
      rw [ofM_self G.out HK.out]
      rintro e w3 ⟨v, rfl, hb3, g, okq, rfl, hq, hn⟩
      have D3 := hide (D2.out.other hb3 hq hn)
      clear hb3 hq hn HP HBP p0 N0 N1 N2 D2 HB2 D HK G
      go_wp2
      go_loopw [15] (fun vi wr => ∃ (j : Nat) (m : M), j ≤ l2.length ∧ vi = .int .i64 j ∧ Hid (Duo w.heap.size w wr g (w.heap.size + 1) m m [])) (fun vi _ => l2.length - (intOf vi).toNat)
      case atStart => exact ⟨0, _, Nat.zero_le _, rfl, D3.out⟩
      case round =>
        clear D3 hs
        obtain ⟨i, m', hi, rfl, D⟩ := hrel
        by_cases hlt3 : i < l2.length
        · obtain ⟨ad, hA, hltd, x0, x1, x2, x3, x4⟩ := (H2.out.below D.out.2.1).geta i hlt3 (by omega)
          obtain ⟨x, hx⟩ : ∃ x, x = l2[i] := ⟨_, rfl⟩
          rw [← hx] at x0 x1 x2 x3 x4
          subst hA
          clear hx
          obtain ⟨kd, k, nm, ar, pl⟩ := x
          simp only at x0 x1 x2 x3 x4
          go_wp2_with (first | ((go_at_call 16); (refine (does_any kd k nm ar pl _ D.out).mono ?_); rintro e w2 ⟨rfl, d2⟩; have D2 := hide d2; clear d2) | ((go_at_call 17); (refine (is_duo D2.out).mono ?_); rintro e w3 ⟨rfl, d3⟩; have D3 := hide d3; clear d3))
          go_roundw
          case rel => exact ⟨i + 1, _, by omega, by go_num, D3.out⟩
          case measure => simp [intOf]; omega
        · go_wp2_with (first | ((go_at_call 13); (refine (works_any _).mono ?_); rintro e w4 ⟨rfl, hb4⟩; have D4 := hide (D.out.below hb4); clear hb4))
          go_ret
          exact ⟨rfl, D4.out.2.1⟩
end Go.Proofs.Ytbobjecjopmnfaa
