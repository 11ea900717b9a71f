/- The walks of SameInts (the kit's) and few (the statements'). -/
import Derived.Test.YtbobjecjopmnfaaJ2
namespace Go.Proofs.Ytbobjecjopmnfaa
open Go.RowKit
theorem Rds.int {w : World} {ok : Nat → Prop} {A : Option Addr} {n c : Nat} {xs : List Int} (h : Rds El.int w ok (.slice A n c) xs) (i : Nat) (hi : i < xs.length) : ∃ ad, A = some ad ∧ ok ad.block ∧ ad.block < w.heap.size ∧ w.cell? (ad.add i) = some (.int .i64 xs[i]) := by
  obtain ⟨ad, cs, ha, hok, hlt, hp, hc⟩ := h.get i hi
  have hp : cs = [.int .i64 xs[i]] := hp
  subst hp
  have h0 := hc 0 _ rfl
  have e : i * El.int.sz + 0 = i := by show i * 1 + 0 = i; omega
  rw [e] at h0
  exact ⟨ad, ha, hok, hlt, h0⟩
theorem add_off {ad : Addr} {k : Nat} : ∀ j, 0 < j → ad.add (k + j) = ⟨(ad.add k).block, (ad.add k).off + j, none⟩ := fun j hj => by
  unfold Addr.add
  by_cases hm : k = 0
  · simp [hm, Nat.ne_of_gt hj]
  · simp [hm, Nat.add_assoc]
theorem Rds.nd {w : World} {ok : Nat → Prop} {A : Option Addr} {n c : Nat} {xs : List Nd} (h : Rds El.nd w ok (.slice A n c) xs) (i : Nat) (hi : i < xs.length) :
    ∃ ad K kc, A = some ad ∧ ok ad.block ∧ ad.block < w.heap.size ∧ w.cell? (ad.add (i * 3)) = some (.int .u8 xs[i].op) ∧ w.cell? ⟨(ad.add (i * 3)).block, (ad.add (i * 3)).off + 1, none⟩ = some (.int .i64 xs[i].pl) ∧ w.cell? ⟨(ad.add (i * 3)).block, (ad.add (i * 3)).off + 2, none⟩ = some (.slice K xs[i].kids.length kc) ∧ Rds El.int w ok (.slice K xs[i].kids.length kc) xs[i].kids := by
  obtain ⟨ad, cs, ha, hok, hlt, ⟨K, kc, he, hk⟩, hc⟩ := h.get i hi
  subst he
  have h0 := hc 0 _ rfl
  have h1 := hc 1 _ rfl
  have h2 := hc 2 _ rfl
  have e : i * El.nd.sz = i * 3 := rfl
  rw [e] at h0 h1 h2
  rw [add_off 1 (by decide)] at h1
  rw [add_off 2 (by decide)] at h2
  exact ⟨ad, K, kc, ha, hok, hlt, h0, h1, h2, hk⟩
theorem drewn_below {w w' : World} (h : ∃ n, w' = w.drewN n) : Below w.heap.size w w' := by
  obtain ⟨n, rfl⟩ := h
  exact below_drewN (Below.refl _ _) n
theorem drewn_drew {w w' : World} (h : ∃ n, w' = w.drewN n) : ∃ n, w'.drew = w.drewN n := by
  obtain ⟨n, rfl⟩ := h
  exact ⟨n + 1, rfl⟩
set_option maxHeartbeats 2000000 in
theorem sameints_any {ok ok' : Nat → Prop} {A B : Option Addr} {ca cb : Nat} (l m : List Int) (hn : l.length ≤ 100000) (w : World) (h : Rds El.int w ok (.slice A l.length ca) l) (h' : Rds El.int w ok' (.slice B m.length cb) m) :
    Calls Try.prog 44 #[.slice A l.length ca, .slice B m.length cb] w fun e w' => e = .returned (.bool (decide (l = m))) ∧ ∃ n, w' = w.drewN n := by
  have H := hide h
  have H' := hide h'
  clear h h'
  by_cases hlm : l.length = m.length
  · go_enter Try.func44, Try.ntmps44
    go_wp2
    go_loopw [5] (fun i wr => ∃ j : Nat, j ≤ l.length ∧ i = .int .i64 j ∧ Hid (l.take j = m.take j) ∧ Hid (∃ n, wr = w.drewN n)) (fun i _ => l.length - (intOf i).toNat)
    case atStart => exact ⟨0, Nat.zero_le _, rfl, rfl, 0, rfl⟩
    case round =>
      obtain ⟨j, hj, rfl, HE, HB⟩ := hrel
      by_cases hlt2 : j < l.length
      · obtain ⟨ad, hA, -, hltd, x0⟩ := (H.out.below (drewn_below HB.out)).int j hlt2
        obtain ⟨bd, hB, -, hltb, y0⟩ := (H'.out.below (drewn_below HB.out)).int j (by omega)
        obtain ⟨x, hx⟩ : ∃ x, x = l[j] := ⟨_, rfl⟩
        obtain ⟨y, hy⟩ : ∃ y, y = m[j]'(by omega) := ⟨_, rfl⟩
        rw [← hx] at x0
        rw [← hy] at y0
        subst hA; subst hB
        have HX := hide hx
        have HY := hide hy
        clear hx hy
        by_cases hxy : x = y
        · subst hxy
          go_wp2
          go_region
          go_wp2
          go_roundw
          case rel =>
            refine ⟨j + 1, by omega, by go_num, ?_, drewn_drew HB.out⟩
            rw [List.take_succ_eq_append_getElem hlt2, List.take_succ_eq_append_getElem (by omega), HE.out, ← HX.out, ← HY.out]
            exact rfl
          case measure => simp [intOf]; omega
        · have hne : (x != y) = true := by simpa using hxy
          go_wp2
          go_region
          go_wp2
          go_ret
          refine ⟨?_, drewn_drew HB.out⟩
          have : l ≠ m := fun e => hxy (by rw [HX.out, HY.out]; simp only [e])
          simp [this]
      · have : l = m := by
          have h1 := HE.out
          rwa [List.take_of_length_le (by omega), List.take_of_length_le (by omega)] at h1
        have HL := hide this
        clear this
        go_wp2
        go_ret
        refine ⟨?_, HB.out⟩
        rw [HL.out]
        simp
  · have : l ≠ m := fun e => hlm (by rw [e])
    have HL := hide this
    clear this
    go_enter Try.func44, Try.ntmps44
    go_wp2
    go_ret
    refine ⟨?_, 0, rfl⟩
    have := HL.out
    simp [this]
/-- At most 60 nodes, of at most 20 parts each. -/
def Few22 (l : List Nd) : Prop := l.length ≤ 60 ∧ ∀ n ∈ l, n.kids.length ≤ 20
/-- A Bool comes back that, being true, says P; nothing that was there has turned. -/
def BoolSays (P : Prop) (w : World) (e : Ending) (w' : World) : Prop := ∃ b : Bool, e = .returned (.bool b) ∧ (b = true → P) ∧ Below w.heap.size w w'
set_option maxHeartbeats 2000000 in
theorem few22_any {ok : Nat → Prop} {A : Option Addr} {c : Nat} (l : List Nd) (w : World) (h : Rds El.nd w ok (.slice A l.length c) l) :
    Calls Try.prog 31 #[.agg #[.slice A l.length c]] w (BoolSays (Few22 l) w) := by
  have H := hide h
  clear h
  have hb1 : (w.alloc (.cells #[.slice A l.length c] 59 (0, 0))).heap[w.heap.size]? = some (.cells #[.slice A l.length c] 59 (0, 0)) := blk_new rfl
  have HB1 := hide ((Below.refl w.heap.size w).alloc (Nat.le_refl _) (.cells #[.slice A l.length c] 59 (0, 0)))
  have b0 := blk_cell hb1 0
  simp at b0
  have hlb := blk_lt hb1
  clear hb1
  by_cases hl : l.length ≤ 60
  · go_enter Try.func31, Try.ntmps31
    go_wp2
    go_loop [3] (fun i => ∃ j : Nat, j ≤ l.length ∧ i = .int .i64 j ∧ Hid (∀ q (hq : q < l.length), q < j → l[q].kids.length ≤ 20)) (fun i => l.length - (intOf i).toNat)
    case atStart => exact ⟨0, Nat.zero_le _, rfl, fun q hq h => absurd h (by omega)⟩
    case round =>
      obtain ⟨j, hj, rfl, HN⟩ := hrel
      by_cases hlt2 : j < l.length
      · obtain ⟨ad, K, kc, hA, -, hltd, x0, x1, x2, -⟩ := (H.out.below HB1.out).nd j hlt2
        obtain ⟨kn, hkn⟩ : ∃ kn, kn = l[j].kids.length := ⟨_, rfl⟩
        rw [← hkn] at x2
        subst hA
        have HKN := hide hkn
        clear hkn x0 x1
        go_wp2
        · go_ret
          exact ⟨false, rfl, (fun h => by cases h), HB1.out⟩
        · have h20 : kn ≤ 20 := by omega
          go_round
          case rel =>
            refine ⟨j + 1, by omega, by go_num, fun q hq hqj => ?_⟩
            rcases Nat.lt_or_eq_of_le (Nat.le_of_lt_succ hqj) with h1 | h1
            · exact HN.out q hq h1
            · subst h1
              rw [← HKN.out]
              exact h20
          case measure => simp [intOf]; omega
      · go_wp2
        go_ret
        refine ⟨true, rfl, fun _ => ⟨hl, fun a ha => ?_⟩, HB1.out⟩
        obtain ⟨q, hq, rfl⟩ := List.mem_iff_getElem.1 ha
        exact HN.out q hq (by omega)
  · go_enter Try.func31, Try.ntmps31
    go_wp2
    go_ret
    exact ⟨false, rfl, (fun h => by cases h), HB1.out⟩
end Go.Proofs.Ytbobjecjopmnfaa
