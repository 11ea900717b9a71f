/- The walk of is (the statements' 22). -/
import Derived.Test.YtbobjecjopmnfaaK4
namespace Go.Proofs.Ytbobjecjopmnfaa
open Go.RowKit
theorem nd_eq {x y : Nd} : x = y ↔ x.op = y.op ∧ x.pl = y.pl ∧ x.kids = y.kids := by
  constructor
  · rintro rfl
    exact ⟨rfl, rfl, rfl⟩
  · obtain ⟨a, b, c⟩ := x
    obtain ⟨a', b', c'⟩ := y
    rintro ⟨h1, h2, h3⟩
    simp only at h1 h2 h3
    subst h1; subst h2; subst h3
    rfl
theorem sameints_y {ok ok' : Nat → Prop} {A B : Option Addr} {n m ca cb : Nat} (x : List Int) (hn : n = x.length) (hm : m = x.length) (hl : n ≤ 100000) (w : World) (h : Rds El.int w ok (.slice A n ca) x) (h' : Rds El.int w ok' (.slice B m cb) x) :
    Calls Try.prog 44 #[.slice A n ca, .slice B m cb] w fun e w' => e = .returned (.bool true) ∧ ∃ n, w' = w.drewN n := by
  subst hn; subst hm
  refine (sameints_any x x hl w h h').mono ?_
  rintro e w' ⟨rfl, hd⟩
  exact ⟨by simp, hd⟩
theorem sameints_n {ok ok' : Nat → Prop} {A B : Option Addr} {n m ca cb : Nat} (x y : List Int) (hxy : x ≠ y) (hn : n = x.length) (hm : m = y.length) (hl : n ≤ 100000) (w : World) (h : Rds El.int w ok (.slice A n ca) x) (h' : Rds El.int w ok' (.slice B m cb) y) :
    Calls Try.prog 44 #[.slice A n ca, .slice B m cb] w fun e w' => e = .returned (.bool false) ∧ ∃ n, w' = w.drewN n := by
  subst hn; subst hm
  refine (sameints_any x y hl w h h').mono ?_
  rintro e w' ⟨rfl, hd⟩
  exact ⟨by simp [hxy], hd⟩
set_option maxHeartbeats 4000000 in
theorem is22_any {ok ok' : Nat → Prop} {A B : Option Addr} {ca cb : Nat} (l m : List Nd) (hl : Fits22 l) (w : World) (h : Rds El.nd w ok (.slice A l.length ca) l) (h' : Rds El.nd w ok' (.slice B m.length cb) m) :
    Calls Try.prog 39 #[.agg #[.slice A l.length ca], .slice B m.length cb] w fun e w' => e = .returned (.bool (decide (l = m))) ∧ Below w.heap.size w w' := by
  have H := hide h
  have H' := hide h'
  clear h h'
  have hl1 := hl.1
  have HF := hide hl
  clear hl
  have hbx : (w.alloc (.cells #[.slice A l.length ca] 59 (0, 0))).heap[w.heap.size]? = some (.cells #[.slice A l.length ca] 59 (0, 0)) := blk_new rfl
  have HBX := hide hbx
  have HB1 := hide ((Below.refl w.heap.size w).alloc (Nat.le_refl _) (.cells #[.slice A l.length ca] 59 (0, 0)))
  have b0 := blk_cell hbx 0
  simp at b0
  have hlb := blk_lt hbx
  clear hbx
  by_cases hlm : l.length = m.length
  · have HLM := hide hlm
    rw [hlm] at H HBX HB1 hl1 hlb ⊢
    clear hlm
    go_enter Try.func39, Try.ntmps39
    go_wp2
    go_loopw [4, 5] (fun v4 i wr => ∃ j : Nat, j ≤ m.length ∧ i = .int .i64 j ∧ Hid (l.take j = m.take j) ∧ Hid (∃ n, wr = (w.alloc (.cells #[.slice A m.length ca] 59 (0, 0))).drewN n)) (fun _ i _ => m.length - (intOf i).toNat)
    case atStart => exact ⟨0, Nat.zero_le _, rfl, rfl, 0, rfl⟩
    case round =>
      obtain ⟨j, hj, rfl, HE, HW⟩ := hrel
      have HB := hide (below_then HB1.out (drewn_below HW.out))
      have b0 := blk_cell (((drewn_below HW.out).block _ (blk_lt HBX.out)).trans HBX.out) 0
      have hlb := Nat.lt_of_lt_of_le (blk_lt HBX.out) (drewn_below HW.out).size
      simp at b0
      by_cases hlt2 : j < m.length
      · have hlt1 : j < l.length := by have := HLM.out; omega
        obtain ⟨ad, K, kc, hA, -, hltd, x0, x1, x2, hk⟩ := (H.out.below HB.out).nd j hlt1
        obtain ⟨bd, K', kc', hB, -, hltb, y0, y1, y2, hk'⟩ := (H'.out.below HB.out).nd j hlt2
        have hkl := HF.out.2 _ (List.getElem_mem hlt1)
        obtain ⟨x, hx⟩ : ∃ x, x = l[j] := ⟨_, rfl⟩
        obtain ⟨y, hy⟩ : ∃ y, y = m[j] := ⟨_, rfl⟩
        rw [← hx] at x0 x1 x2 hk hkl
        rw [← hy] at y0 y1 y2 hk'
        subst hA; subst hB
        have HX := hide hx
        have HY := hide hy
        have HK := hide hk
        have HK' := hide hk'
        clear hx hy hk hk'
        obtain ⟨xo, xp, xk⟩ := x
        obtain ⟨yo, yp, yk⟩ := y
        simp only at x0 x1 x2 y0 y1 y2 HK HK' hkl
        have hat : l = m → (⟨xo, xp, xk⟩ : Nd) = ⟨yo, yp, yk⟩ := fun e => by rw [HX.out, HY.out]; simp only [e]
        have HAT := hide hat
        clear hat
        by_cases h1 : xo = yo
        · subst h1
          by_cases h2 : xp = yp
          · subst h2
            by_cases h3 : xk = yk
            · subst h3
              go_wp2
              go_quiet ((go_at_call 44; exact Calls.quiet_of (sameints_y xk rfl rfl (by omega) _ (HK.out.below (below_drewN (Below.refl _ _) _)) (HK'.out.below (below_drewN (Below.refl _ _) _)))))
              go_wp2
              go_roundw
              case rel =>
                refine ⟨j + 1, by omega, by go_num, ?_, ?_⟩
                · rw [List.take_succ_eq_append_getElem hlt1, List.take_succ_eq_append_getElem hlt2, HE.out, ← HX.out, ← HY.out]
                  exact rfl
                · obtain ⟨n, hn⟩ := HW.out
                  exact ⟨n + nq, by rw [hn]; exact drewN_add _ _ _⟩
              case measure => simp [intOf]; omega
            · have H3 := hide h3
              clear h3
              go_wp2
              go_quiet ((go_at_call 44; exact Calls.quiet_of (sameints_n xk yk H3.out rfl rfl (by omega) _ (HK.out.below (below_drewN (Below.refl _ _) _)) (HK'.out.below (below_drewN (Below.refl _ _) _)))))
              go_wp2
              go_ret
              refine ⟨?_, below_drewN HB.out _⟩
              have hne : l ≠ m := fun e => H3.out (nd_eq.1 (HAT.out e)).2.2
              simp [hne]
          · have hd : (xp != yp) = true := by simpa using h2
            have H2 := hide h2
            clear h2
            go_wp2
            go_quiet (fail)
            go_wp2
            go_ret
            refine ⟨?_, below_drewN HB.out _⟩
            have hne : l ≠ m := fun e => H2.out (nd_eq.1 (HAT.out e)).2.1
            simp [hne]
        · have hd : (xo != yo) = true := by simpa using h1
          have H1 := hide h1
          clear h1
          go_wp2
          go_quiet (fail)
          go_wp2
          go_ret
          refine ⟨?_, below_drewN HB.out _⟩
          have hne : l ≠ m := fun e => H1.out (nd_eq.1 (HAT.out e)).1
          simp [hne]
      · have hE : l = m := by
          have h1 := HE.out
          have hlm := HLM.out
          rwa [List.take_of_length_le (by omega), List.take_of_length_le (by omega)] at h1
        have HEE := hide hE
        clear hE
        go_wp2
        go_ret
        refine ⟨?_, HB.out⟩
        have := HEE.out
        simp [this]
  · have hne : l ≠ m := fun e => hlm (by rw [e])
    have HN := hide hne
    clear hne
    go_enter Try.func39, Try.ntmps39
    go_wp2
    go_ret
    refine ⟨?_, HB1.out⟩
    have := HN.out
    simp [this]
end Go.Proofs.Ytbobjecjopmnfaa
