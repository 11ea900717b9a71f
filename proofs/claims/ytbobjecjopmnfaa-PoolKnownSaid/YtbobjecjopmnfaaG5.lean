/- The walk of PoolRows. -/
import Derived.Test.YtbobjecjopmnfaaG3
namespace Go.Proofs.Ytbobjecjopmnfaa
open Go.RowKit
/-- Of's two pools, beside each other. -/
theorem Duo.of {w0 w w1 w2 : World} {g g' : Nat} {m : M} {ok ok' : Nat → Prop} (hB : Below w0.heap.size w0 w) (hb1 : Below w.heap.size w w1) (hb2 : Below w1.heap.size w1 w2) (hp : At w1 90 31 ok g m) (hn : ∀ b, ok b → w.heap.size ≤ b) (hr : At w2 92 94 ok' g' m) (hn' : ∀ b, ok' b → w1.heap.size ≤ b) :
    Duo w0.heap.size w0 w2 g g' m m [] :=
  ⟨Nat.le_refl _, below_then (below_then hB hb1) hb2, ok, ok', hp.below hb2, hr, fun b h h' => absurd (hp.lt b h) (Nat.not_lt.2 (hn' b h')), fun b h => Nat.le_trans hB.size (hn b h), fun b h => Nat.le_trans hB.size (Nat.le_trans hb1.size (hn' b h)), fun x h => by cases h⟩

set_option maxHeartbeats 2000000 in
theorem prows_long {A1 A2 A3 : Option Addr} {c1 c2 c3 n1 n2 n3 : Nat} (room : Int) (w : World) (h : 60 < n1 ∨ (n1 ≤ 60 ∧ 60 < n2) ∨ (n1 ≤ 60 ∧ n2 ≤ 60 ∧ 60 < n3)) :
    Calls Try.prog 6 #[.int .i64 room, .slice A1 n1 c1, .slice A2 n2 c2, .slice A3 n3 c3] w fun e w' => e = .returned (.bool true) ∧ Below w.heap.size w w' := by
  rcases h with h | ⟨h, h'⟩ | ⟨h, h', h''⟩
  all_goals
    go_enter Try.func6, Try.ntmps6
    go_wp2_with fail
    go_at_call 13
    refine (works_any _).mono ?_
    rintro e w1 ⟨rfl, hb⟩
    have HB := hide hb
    clear hb
    go_wp2
    go_ret
    exact ⟨rfl, HB.out⟩
set_option maxHeartbeats 4000000 in
theorem prows_any {ok : Nat → Prop} {A1 A2 A3 : Option Addr} {c1 c2 c3 : Nat} (room : Int) (l1 l2 l3 : List Ev) (w : World) (h1 : Rd w ok 4 (.slice A1 l1.length c1) l1.length (cells l1)) (h2 : Rd w ok 4 (.slice A2 l2.length c2) l2.length (cells l2)) (h3 : Rd w ok 4 (.slice A3 l3.length c3) l3.length (cells l3)) :
    Calls Try.prog 6 #[.int .i64 room, .slice A1 l1.length c1, .slice A2 l2.length c2, .slice A3 l3.length c3] w fun e w' => e = .returned (.bool true) ∧ Below w.heap.size w w' := by
  by_cases hl1 : l1.length ≤ 60
  case neg => exact prows_long room w (.inl (by omega))
  by_cases hl2 : l2.length ≤ 60
  case neg => exact prows_long room w (.inr (.inl ⟨hl1, by omega⟩))
  by_cases hl3 : l3.length ≤ 60
  case neg => exact prows_long room w (.inr (.inr ⟨hl1, hl2, by omega⟩))
  have H1 := hide h1
  have H2 := hide h2
  have H3 := hide h3
  clear h1 h2 h3
  go_enter Try.func6, Try.ntmps6
  go_wp2_with fail
  go_at_call 27
  refine (row_any l1 _ (H1.out) (by omega)).mono ?_
  rintro e w1 ⟨X1, x1, rfl, r, f, hb⟩
  have R1 := hide r
  have B1 := hide hb
  have S1 := hide hb
  clear r f hb
  go_wp2_with fail
  go_at_call 27
  refine (row_any l2 _ (H2.out.below B1.out) (by omega)).mono ?_
  rintro e w2 ⟨X2, x2, rfl, r, f, hb⟩
  have R2 := hide r
  have B2 := hide (below_then B1.out hb)
  have S2 := hide hb
  clear r f hb
  go_wp2_with fail
  go_at_call 27
  refine (row_any l3 _ (H3.out.below B2.out) (by omega)).mono ?_
  rintro e w3 ⟨X3, x3, rfl, r, f, hb⟩
  have R3 := hide r
  have B3 := hide (below_then B2.out hb)
  have S3 := hide hb
  clear r f hb
  have E3 := hide (R3.out.rd (ok := fun _ => True) (fun _ _ => trivial))
  have E2 := hide ((R2.out.below S3.out).rd (ok := fun _ => True) (fun _ _ => trivial))
  have E1 := hide ((R1.out.below (below_then S2.out S3.out)).rd (ok := fun _ => True) (fun _ _ => trivial))
  clear R1 R2 R3 S1 S2 S3 B1 B2
  go_wp2_with fail
  go_at_call 28
  refine (of_any room l1 l2 l3 _ (H1.out.below B3.out) (H2.out.below B3.out) (H3.out.below B3.out) (by omega) (by omega) (by omega)).mono ?_
  rintro e w4 ⟨v, rfl, hb4, hg4⟩
  have B4 := hide hb4
  have G4 := hide hg4
  clear hb4 hg4
  obtain ⟨o, ho⟩ : ∃ o, o = (ofM room l1 l2 l3).1 := ⟨_, rfl⟩
  obtain ⟨q, hq⟩ : ∃ q, q = (ofM room l1 l2 l3).2 := ⟨_, rfl⟩
  rw [← ho] at G4
  rw [← hq]
  have HO := hide ho
  have HQ := hide hq
  clear ho hq
  go_wp2_with fail
  go_at_call 29
  refine (rof_any room l1 l2 l3 _ (E1.out.below B4.out) (E2.out.below B4.out) (E3.out.below B4.out) (by omega) (by omega) (by omega)).mono ?_
  rintro e w5 ⟨v', rfl, hb5, hg5⟩
  have B5 := hide hb5
  have G5 := hide hg5
  clear hb5 hg5
  rw [← HO.out] at G5
  rw [← HQ.out]
  have F5 := hide (below_then (below_then B3.out B4.out) B5.out)
  have P1 := hide (H1.out.below F5.out)
  have P2 := hide (H2.out.below F5.out)
  have P3 := hide (H3.out.below F5.out)
  have Q1 := hide (E1.out.below (below_then B4.out B5.out))
  have Q2 := hide (E2.out.below (below_then B4.out B5.out))
  have Q3 := hide (E3.out.below (below_then B4.out B5.out))
  clear E1 E2 E3 H1 H2 H3
  obtain rfl | ⟨m, rfl⟩ : o = none ∨ ∃ m, o = some m := by cases o <;> simp
  · have e1 : v = .pointer none := G4.out
    have e2 : v' = .pointer none := G5.out
    subst e1; subst e2
    go_wp2_with fail
    go_at_call 30
    refine (same_any l1 (by omega) _ (P1.out) (Q1.out)).mono ?_
    rintro e u1 ⟨rfl, hb⟩
    have C1 := hide hb
    clear hb
    go_wp2_with fail
    go_at_call 30
    refine (same_any l2 (by omega) _ (P2.out.below C1.out) (Q2.out.below C1.out)).mono ?_
    rintro e u2 ⟨rfl, hb⟩
    have C2 := hide (below_then C1.out hb)
    clear hb
    go_wp2_with fail
    go_at_call 30
    refine (same_any l3 (by omega) _ (P3.out.below C2.out) (Q3.out.below C2.out)).mono ?_
    rintro e u3 ⟨rfl, hb⟩
    have C3 := hide (below_then C2.out hb)
    clear hb
    go_wp2_with fail
    go_at_call 13
    refine (works_any _).mono ?_
    rintro e u4 ⟨rfl, hb⟩
    have C4 := hide (below_then (below_then F5.out C3.out) hb)
    clear hb
    go_wp2
    go_ret
    exact ⟨rfl, C4.out⟩
  · obtain ⟨g, okp, rfl, hp, hn⟩ := G4.out
    obtain ⟨g', okr, rfl, hr, hn'⟩ := G5.out
    have D5 := hide (Duo.of B3.out B4.out B5.out hp hn hr hn')
    clear hp hn hr hn' G4 G5
    go_wp2_with fail
    go_at_call 30
    refine (same_any l1 (by omega) _ (P1.out) (Q1.out)).mono ?_
    rintro e u1 ⟨rfl, hb⟩
    have C1 := hide hb
    clear hb
    go_wp2_with fail
    go_at_call 30
    refine (same_any l2 (by omega) _ (P2.out.below C1.out) (Q2.out.below C1.out)).mono ?_
    rintro e u2 ⟨rfl, hb⟩
    have C2 := hide (below_then C1.out hb)
    clear hb
    go_wp2_with fail
    go_at_call 30
    refine (same_any l3 (by omega) _ (P3.out.below C2.out) (Q3.out.below C2.out)).mono ?_
    rintro e u3 ⟨rfl, hb⟩
    have C3 := hide (below_then C2.out hb)
    clear hb
    go_wp2_with fail
    go_at_call 17
    refine (is_duo (D5.out.below C3.out)).mono ?_
    rintro e u4 ⟨rfl, d⟩
    have D6 := hide d
    clear d
    go_wp2_with fail
    go_at_call 13
    refine (works_any _).mono ?_
    rintro e u5 ⟨rfl, hb⟩
    have D7 := hide (D6.out.below hb)
    clear hb
    go_wp2
    go_ret
    exact ⟨rfl, D7.out.2.1⟩
end Go.Proofs.Ytbobjecjopmnfaa
