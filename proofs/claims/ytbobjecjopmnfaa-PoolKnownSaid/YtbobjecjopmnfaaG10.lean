/- The walk of PoolKnown. -/
import Derived.Test.YtbobjecjopmnfaaG9
import Derived.StillTailTactics
import Derived.Deep.DeepCutAuto
namespace Go.Proofs.Ytbobjecjopmnfaa
open Go.RowKit
abbrev rooms : Array Value := #[.int .i64 (-9223372036854775808), .int .i64 0, .int .i64 1, .int .i64 255, .int .i64 256, .int .i64 257, .int .i64 9223372036854775807]
theorem room_at {w : World} {g : Nat} (h : w.heap[g]? = some (.cells rooms 3 (0, 0))) (t : Nat) (ht : t < 7) : ∃ rm, w.cell? ⟨g, t, none⟩ = some (.int .i64 rm) := by
  have key : ∀ j, j < 7 → ∃ rm, rooms[j]? = some (.int .i64 rm) := by
    intro j hj
    have : j = 0 ∨ j = 1 ∨ j = 2 ∨ j = 3 ∨ j = 4 ∨ j = 5 ∨ j = 6 := by omega
    rcases this with rfl | rfl | rfl | rfl | rfl | rfl | rfl <;> exact ⟨_, rfl⟩
  obtain ⟨rm, hr⟩ := key t ht
  exact ⟨rm, (blk_cell h t).trans hr⟩
theorem at_first {w : World} {ok : Nat → Prop} {l : List Ev} {g c n : Nat} {k : Int} {nm : ByteArray} {ar pl : Int} (h : Rd w ok 4 (.slice (some ⟨g, 0, none⟩) n c) n (cells l)) (hl : 0 < l.length) (hx : (⟨k, nm, ar, pl⟩ : Ev) = l[0]) :
    (w.cell? ⟨g, 0, none⟩ = some (.int .u8 k) ∧ w.cell? ⟨g, 1, none⟩ = some (.string nm) ∧ w.cell? ⟨g, 2, none⟩ = some (.int .i64 ar) ∧ w.cell? ⟨g, 3, none⟩ = some (.int .i64 pl)) ∧ g < w.heap.size := by
  have hn : l.length = n := by have := h.1; rw [cells_length] at this; omega
  obtain ⟨a, b, c, d, e⟩ := h.at0 0 hl (by omega)
  rw [← hx] at a b c d
  simp only [Nat.zero_mul, Nat.zero_add] at a b c d
  exact ⟨⟨a, b, c, d⟩, e⟩
set_option maxRecDepth 20000 in
set_option maxHeartbeats 16000000 in
theorem known_any (w : World) : Calls Try.prog 8 #[] w fun e w' => e = .returned (.bool true) ∧ Below w.heap.size w w' := by
  go_enter Try.func8, Try.ntmps8
  go_wp2
  have HB1 : Hid (Below w.heap.size w (w.alloc (.cells (cells kl).toArray 31 (0, 0)))) := (Below.refl _ _).alloc (Nat.le_refl _) _
  have HK1 : Hid (Rd (w.alloc (.cells (cells kl).toArray 31 (0, 0))) (fun _ => True) 4 (.slice (some ⟨w.heap.size, 0, none⟩) 13 13) 13 (cells kl)) := rd_kl (blk_new rfl)
  revert HB1 HK1
  show Hid (Below w.heap.size w (w.alloc (.cells (cells kl).toArray 31 (0, 0)))) → Hid (Rd (w.alloc (.cells (cells kl).toArray 31 (0, 0))) (fun _ => True) 4 (.slice (some ⟨w.heap.size, 0, none⟩) 13 13) 13 (cells kl)) → Code.wp _ _ _ _ (w.alloc (.cells (cells kl).toArray 31 (0, 0)))
  generalize w.alloc (.cells (cells kl).toArray 31 (0, 0)) = w1
  intro HB1 HK1
  obtain ⟨L, hL⟩ : ∃ L, L = kl := ⟨_, rfl⟩
  have hLl : L.length = 13 := by rw [hL]; rfl
  rw [← hL] at HK1
  clear hL
  go_loopw [2] (fun vi wr => ∃ i : Nat, i ≤ 13 ∧ vi = .int .i64 i ∧ Hid (Below w1.heap.size w1 wr)) (fun vi _ => 13 - (intOf vi).toNat)
  case atStart => exact ⟨0, Nat.zero_le _, rfl, Below.refl _ _⟩
  case round =>
    obtain ⟨i, hi, rfl, HB⟩ := hrel
    by_cases hlt2 : i < 13
    · go_wp2
      simp only [show decide ((i : Int) < 13) = true from decide_eq_true (by omega)]
      go_loopw [3] (fun vk wr => ∃ k : Nat, k ≤ 13 ∧ vk = .int .i64 k ∧ Hid (Below w1.heap.size w1 wr)) (fun vk _ => 13 - (intOf vk).toNat)
      case atStart => exact ⟨0, Nat.zero_le _, rfl, HB.out⟩
      case round =>
        clear HB
        obtain ⟨k, hk, rfl, HB⟩ := hrel
        by_cases hlt3 : k < 13
        · have HK := hide (HK1.out.below HB.out)
          obtain ⟨a0, a1, a2, a3, hlt⟩ := HK.out.at0 i (by omega) (by omega)
          obtain ⟨b0, b1, b2, b3, -⟩ := HK.out.at0 k (by omega) (by omega)
          obtain ⟨c0, c1, c2, c3, -⟩ := HK.out.at0 0 (by omega) (by omega)
          obtain ⟨d0, d1, d2, d3, -⟩ := HK.out.at0 12 (by omega) (by omega)
          obtain ⟨xa, hxa⟩ : ∃ x, x = L[i] := ⟨_, rfl⟩
          obtain ⟨xb, hxb⟩ : ∃ x, x = L[k] := ⟨_, rfl⟩
          obtain ⟨xc, hxc⟩ : ∃ x, x = L[0] := ⟨_, rfl⟩
          obtain ⟨xd, hxd⟩ : ∃ x, x = L[12] := ⟨_, rfl⟩
          rw [← hxa] at a0 a1 a2 a3
          rw [← hxb] at b0 b1 b2 b3
          rw [← hxc] at c0 c1 c2 c3
          rw [← hxd] at d0 d1 d2 d3
          clear hxa hxb hxc hxd
          obtain ⟨ka, na, aa, pa⟩ := xa
          obtain ⟨kb, nb, ab, pb⟩ := xb
          obtain ⟨kc, nc, ac, pc⟩ := xc
          obtain ⟨kd, nd, ad, pd⟩ := xd
          simp only [Nat.zero_mul, Nat.zero_add, Nat.reduceMul, Nat.reduceAdd] at a0 a1 a2 a3 b0 b1 b2 b3 c0 c1 c2 c3 d0 d1 d2 d3
          go_upto_region 8 with fail
          simp only [show decide ((k : Int) < 13) = true from decide_eq_true (by omega)]
          go_cut [4] (fun v wx => ∃ (g : Nat) (acts : List Act), v = .slice (some ⟨g, 0, none⟩) 13 13 ∧ Hid (Rd wx (fun _ => True) 5 (.slice (some ⟨g, 0, none⟩) 13 13) 13 (acells acts)) ∧ Hid (Below w1.heap.size w1 wx))
          case first =>
            go_still_tail 59, (by kernel_rfl)
            change wpList _ _ _ _ _ wr.drew
            go_wp2
            go_meet
            case rel =>
              refine ⟨wr.heap.size, [⟨0, ka, na, aa, pa⟩, ⟨2, kb, nb, ab, pb⟩, ⟨1, kb, nb, ab, pb⟩, ⟨3, kc, nc, ac, pc⟩, ⟨6, ka, na, aa, pa⟩, ⟨2, kd, nd, ad, pd⟩, ⟨0, kc, nc, ac, pc⟩, ⟨6, kb, nb, ab, pb⟩, ⟨4, kc, nc, ac, pc⟩, ⟨2, ka, na, aa, pa⟩, ⟨3, ka, na, aa, pa⟩, ⟨4, kc, nc, ac, pc⟩, ⟨4, kc, nc, ac, pc⟩], rfl, ?_, ?_⟩
              · exact rd_block (n := 13) (sz := 5) (blk_new rfl) rfl
              · exact HB.out.drew.alloc (HB.out.size) _
          case rest =>
            obtain ⟨g, acts, rfl, HX, HBX⟩ := hcut
            have HKX := hide (HK1.out.below HBX.out)
            obtain ⟨r, hr, hr3⟩ : ∃ r : Nat, (i : Int).tmod 3 = r ∧ r < 3 := ⟨i % 3, by rw [Int.tmod_eq_emod_of_nonneg (by omega)]; omega, Nat.mod_lt _ (by decide)⟩
            have f0 : ¬ 13 = i := by omega
            have f00 : ¬ 13 = k := by omega
            have f1 : (0 : Int) ≤ k := by omega
            have f2 : (k : Int) ≤ 13 := by omega
            have f3 : IntKind.i64.wrap ((i : Int) + 2) = i + 2 := by rw [IntKind.wrap_i64]; omega
            have f4 : IntKind.i64.wrap ((k : Int) + 1) = k + 1 := by rw [IntKind.wrap_i64]; omega
            have f5 : IntKind.i64.wrap (1 + (r : Int)) = 1 + r := by rw [IntKind.wrap_i64]; omega
            have f6 : (0 : Int) ≤ i := by omega
            have f7 : (i : Int) ≤ i + 2 := by omega
            have f8 : (0 : Int) ≤ (i : Int) + 2 := by omega
            have f9 : (k : Int) ≤ k + 1 := by omega
            have f10 : (k : Int) + 1 ≤ 13 := by omega
            have f11 : (0 : Int) ≤ (k : Int) + 1 := by omega
            have f12 : (1 : Int) ≤ 1 + r := by omega
            have f13 : 1 + (r : Int) ≤ 13 := by omega
            have f14 : (0 : Int) ≤ 1 + (r : Int) := by omega
            have f15 : (i : Int) ≤ 13 := by omega
            have f16 : (i : Int) + 2 ≤ 13 ∨ True := .inr trivial
            clear f16
            have hi2 : (i : Int) + 2 < 13 ∨ ¬ (i : Int) + 2 < 13 := by omega
            rcases hi2 with hi2 | hi2
            · have f16 : (i : Int) + 2 ≤ 13 := by omega
              go_wp2_with fail
              go_region_held3 (fun _ => True) (trivial) (first | ((go_at_call 3); (refine (plays_n _ acts _ (HX.out.below (Below.refl _ _).drew)).mono ?_); rintro e w2 ⟨rfl, hb2⟩; have HB2 := hide (below_then (Below.refl _ _).drew hb2); have HS := trivial; clear hb2) | ((go_at_call 3); (refine (plays_n _ acts _ (HX.out.below HB2.out)).mono ?_); rintro e w3 ⟨rfl, hb3⟩; have HB3 := hide (below_then HB2.out hb3); have HS := trivial; clear hb3) | ((go_at_call 7); go_must (refine (again_n _ _ acts _ ((HX.out.below HB3.out).asub 0 k (by omega) (by omega) (by omega) (by omega) (by omega)) (HX.out.below HB3.out)).mono ?_; rintro e w4 ⟨rfl, hb4⟩; have HB4 := hide (below_then HB3.out hb4); have HS := trivial; clear hb4)) | ((go_at_call 6); go_must (refine (prows_n _ _ _ _ _ ((HKX.out.below HB4.out).esub i (i + 2) (by omega) (by omega) (by omega) (by omega) (by omega)) ((HKX.out.below HB4.out).esub k (k + 1) (by omega) (by omega) (by omega) (by omega) (by omega)) ((HKX.out.below HB4.out).esub 1 (1 + r) (by omega) (by omega) (by omega) (by omega) (by omega))).mono ?_; rintro e w5 ⟨rfl, hb5⟩; have HB5 := hide (below_then HB4.out hb5); have HS := trivial; clear hb5)))
              go_wp2
              go_roundw
              case rel => exact ⟨k + 1, by omega, by go_num, below_then HBX.out HB5.out⟩
              case measure => simp [intOf]; omega
            · have hi3 : (13 : Int) ≤ (i : Int) + 2 := by omega
              have hi4 : decide ((i : Int) + 2 < 13) = false := decide_eq_false hi2
              have hi5 : ((i : Int) + 2 < 13) = False := eq_false hi2
              go_wp2_with fail
              go_region_held3 (fun _ => True) (trivial) (first | ((go_at_call 3); (refine (plays_n _ acts _ (HX.out.below (Below.refl _ _).drew)).mono ?_); rintro e w2 ⟨rfl, hb2⟩; have HB2 := hide (below_then (Below.refl _ _).drew hb2); have HS := trivial; clear hb2) | ((go_at_call 3); (refine (plays_n _ acts _ (HX.out.below HB2.out)).mono ?_); rintro e w3 ⟨rfl, hb3⟩; have HB3 := hide (below_then HB2.out hb3); have HS := trivial; clear hb3) | ((go_at_call 7); go_must (refine (again_n _ _ acts _ ((HX.out.below HB3.out).asub 0 k (by omega) (by omega) (by omega) (by omega) (by omega)) (HX.out.below HB3.out)).mono ?_; rintro e w4 ⟨rfl, hb4⟩; have HB4 := hide (below_then HB3.out hb4); have HS := trivial; clear hb4)) | ((go_at_call 6); go_must (refine (prows_n _ _ _ _ _ ((HKX.out.below HB4.out).esub i (13) (by omega) (by omega) (by omega) (by omega) (by omega)) ((HKX.out.below HB4.out).esub k (k + 1) (by omega) (by omega) (by omega) (by omega) (by omega)) ((HKX.out.below HB4.out).esub 1 (1 + r) (by omega) (by omega) (by omega) (by omega) (by omega))).mono ?_; rintro e w5 ⟨rfl, hb5⟩; have HB5 := hide (below_then HB4.out hb5); have HS := trivial; clear hb5)))
              go_wp2
              go_roundw
              case rel => exact ⟨k + 1, by omega, by go_num, below_then HBX.out HB5.out⟩
              case measure => simp [intOf]; omega
        · have HK := hide (HK1.out.below HB.out)
          obtain ⟨a0, a1, a2, a3, hlt⟩ := HK.out.at0 i (by omega) (by omega)
          obtain ⟨xa, hxa⟩ : ∃ x, x = L[i] := ⟨_, rfl⟩
          rw [← hxa] at a0 a1 a2 a3
          clear hxa
          obtain ⟨ka, na, aa, pa⟩ := xa
          simp only at a0 a1 a2 a3
          have f0 : ¬ 13 = i := by omega
          have f1 : IntKind.i64.wrap ((i : Int) + 1) = i + 1 := by rw [IntKind.wrap_i64]; omega
          have f2 : (0 : Int) ≤ i := by omega
          have f3 : (i : Int) ≤ i + 1 := by omega
          have f4 : (i : Int) + 1 ≤ 13 := by omega
          have f5 : (0 : Int) ≤ (i : Int) + 1 := by omega
          go_wp2_with (first | ((go_at_call 5); go_must (refine (none_any 0 ka na aa pa _).mono ?_; rintro e w5 ⟨rfl, hb5⟩; have HB5 := hide (below_then HB.out hb5); clear hb5)) | ((go_at_call 6); go_must (refine (prows_n 1 [] _ [] _ (Rd.nil _ (fun _ => True) _) ((HK1.out.below HB5.out).esub i (i + 1) (by omega) (by omega) (by omega) (by omega) (by omega)) (Rd.nil _ _ _)).mono ?_; rintro e w6 ⟨rfl, hb6⟩; have HB6 := hide (below_then HB5.out hb6); clear hb6)))
          go_roundw
          case rel => exact ⟨i + 1, by omega, by go_num, HB6.out⟩
          case measure => simp [intOf]; omega
    · go_wp2
      have HI0 : Hid ((wr.alloc (.cells rooms 3 (0, 0))).heap[wr.heap.size]? = some (.cells rooms 3 (0, 0))) := blk_new rfl
      have HB2 := hide (below_then HB.out ((Below.refl wr.heap.size wr).alloc (Nat.le_refl _) (.cells rooms 3 (0, 0))))
      obtain ⟨g2, hg2⟩ : ∃ g2, g2 = wr.heap.size := ⟨_, rfl⟩
      rw [← hg2] at HI0
      rw [← hg2]
      clear hg2
      go_loopw [154] (fun vt wu => ∃ t : Nat, t ≤ 7 ∧ vt = .int .i64 t ∧ Hid (Below w1.heap.size w1 wu) ∧ Hid (wu.heap[g2]? = some (.cells rooms 3 (0, 0)))) (fun vt _ => 7 - (intOf vt).toNat)
      case atStart => exact ⟨0, Nat.zero_le _, rfl, HB2.out, HI0.out⟩
      case round =>
        clear HB2 HI0 HB
        obtain ⟨t, ht, rfl, HB, HI⟩ := hrel
        obtain ⟨wu, hwu⟩ : ∃ x : World, x = wr := ⟨_, rfl⟩
        subst hwu
        by_cases hlt4 : t < 7
        · obtain ⟨rm, hrm⟩ := room_at HI.out t hlt4
          have hg2 := blk_lt HI.out
          have D0 := hide (Duo.new rm wu)
          go_wp2_with (first | ((go_at_call 14); (refine (pnew_any _ _).mono ?_); rintro e _ ⟨rfl, rfl⟩) | ((go_at_call 15); (refine (rnew_any _ _).mono ?_); rintro e _ ⟨rfl, rfl⟩))
          go_loopw [9] (fun vq wq => ∃ (q : Nat) (m : M), q ≤ 258 ∧ vq = .int .i64 q ∧ Hid (Duo wu.heap.size wu wq wu.heap.size (wu.heap.size + 1) m m [])) (fun vq _ => 258 - (intOf vq).toNat)
          case atStart => exact ⟨0, _, Nat.zero_le _, rfl, D0.out⟩
          case round =>
            clear D0 hrm
            obtain ⟨q, m, hq, rfl, D⟩ := hrel
            by_cases hlt5 : q < 258
            · have HK := hide (HK1.out.below (below_then HB.out D.out.2.1))
              obtain ⟨a0, a1, a2, a3, hlt⟩ := HK.out.at0 1 (by omega) (by omega)
              obtain ⟨xa, hxa⟩ : ∃ x, x = L[1] := ⟨_, rfl⟩
              rw [← hxa] at a0 a1 a2 a3
              clear hxa
              obtain ⟨ka, na, aa, pa⟩ := xa
              simp only [Nat.one_mul, Nat.reduceAdd] at a0 a1 a2 a3
              go_wp2_with (first | ((go_at_call 16); go_must (refine (does_any _ ka na aa pa _ D.out).mono ?_; rintro e w2 ⟨rfl, d2⟩; have D2 := hide d2; clear d2)))
              go_roundw
              case rel => exact ⟨q + 1, _, by omega, by go_num, D2.out⟩
              case measure => simp [intOf]; omega
            · have HI2 := hide ((D.out.2.1.block _ hg2).trans HI.out)
              go_wp2_with (first | ((go_at_call 17); go_must (refine (is_duo D.out).mono ?_; rintro e w3 ⟨rfl, d3⟩; have D3 := hide d3; clear d3)))
              go_roundw
              case rel => exact ⟨t + 1, by omega, by go_num, below_then HB.out D3.out.2.1, (D3.out.2.1.block _ hg2).trans HI.out⟩
              case measure => simp [intOf]; omega
        · have HK := hide (HK1.out.below HB.out)
          obtain ⟨xa, hxa⟩ : ∃ x, x = L[0] := ⟨_, rfl⟩
          obtain ⟨ka, na, aa, pa⟩ := xa
          have HX := hide hxa
          clear hxa
          obtain ⟨⟨a0, a1, a2, a3⟩, hlt⟩ := at_first HK.out (by omega) HX.out
          have HO := hide (show Rd (wu.alloc (.cells #[.int .i64 0, .int .u8 ka, .string na, .int .i64 aa, .int .i64 pa, .int .i64 1, .int .u8 ka, .string na, .int .i64 aa, .int .i64 pa, .int .i64 2, .int .u8 ka, .string na, .int .i64 aa, .int .i64 pa, .int .i64 1, .int .u8 ka, .string na, .int .i64 aa, .int .i64 pa, .int .i64 4, .int .u8 ka, .string na, .int .i64 aa, .int .i64 pa, .int .i64 3, .int .u8 ka, .string na, .int .i64 aa, .int .i64 pa, .int .i64 4, .int .u8 ka, .string na, .int .i64 aa, .int .i64 pa, .int .i64 4, .int .u8 ka, .string na, .int .i64 aa, .int .i64 pa] 33 (0, 0))).drew (fun _ => True) 5 (.slice (some ⟨wu.heap.size, 0, none⟩) 8 8) 8 (acells [⟨0, ka, na, aa, pa⟩, ⟨1, ka, na, aa, pa⟩, ⟨2, ka, na, aa, pa⟩, ⟨1, ka, na, aa, pa⟩, ⟨4, ka, na, aa, pa⟩, ⟨3, ka, na, aa, pa⟩, ⟨4, ka, na, aa, pa⟩, ⟨4, ka, na, aa, pa⟩]) from rd_block (n := 8) (sz := 5) (w := (wu.alloc (.cells #[.int .i64 0, .int .u8 ka, .string na, .int .i64 aa, .int .i64 pa, .int .i64 1, .int .u8 ka, .string na, .int .i64 aa, .int .i64 pa, .int .i64 2, .int .u8 ka, .string na, .int .i64 aa, .int .i64 pa, .int .i64 1, .int .u8 ka, .string na, .int .i64 aa, .int .i64 pa, .int .i64 4, .int .u8 ka, .string na, .int .i64 aa, .int .i64 pa, .int .i64 3, .int .u8 ka, .string na, .int .i64 aa, .int .i64 pa, .int .i64 4, .int .u8 ka, .string na, .int .i64 aa, .int .i64 pa, .int .i64 4, .int .u8 ka, .string na, .int .i64 aa, .int .i64 pa] 33 (0, 0))).drew) (blk_new (w := wu) rfl) rfl)
          have HB4 := hide (HB.out.alloc HB.out.size (.cells #[.int .i64 0, .int .u8 ka, .string na, .int .i64 aa, .int .i64 pa, .int .i64 1, .int .u8 ka, .string na, .int .i64 aa, .int .i64 pa, .int .i64 2, .int .u8 ka, .string na, .int .i64 aa, .int .i64 pa, .int .i64 1, .int .u8 ka, .string na, .int .i64 aa, .int .i64 pa, .int .i64 4, .int .u8 ka, .string na, .int .i64 aa, .int .i64 pa, .int .i64 3, .int .u8 ka, .string na, .int .i64 aa, .int .i64 pa, .int .i64 4, .int .u8 ka, .string na, .int .i64 aa, .int .i64 pa, .int .i64 4, .int .u8 ka, .string na, .int .i64 aa, .int .i64 pa] 33 (0, 0))).drew
          go_wp2_with fail
          go_region_held3 (fun w' => w'.cell? ⟨w.heap.size, 0, none⟩ = some (.int .u8 ka) ∧ w'.cell? ⟨w.heap.size, 1, none⟩ = some (.string na) ∧ w'.cell? ⟨w.heap.size, 2, none⟩ = some (.int .i64 aa) ∧ w'.cell? ⟨w.heap.size, 3, none⟩ = some (.int .i64 pa)) (first | exact HS.out | go_keep | assumption) (first | ((go_at_call 4); go_must (refine (once_n 7 _ _ HO.out).mono ?_; rintro e w5 ⟨rfl, hb5⟩; have HB5 := hide (below_then HB4.out hb5); have HS := hide (at_first (HK1.out.below HB5.out) (by omega) HX.out).1; clear hb5)) | ((go_at_call 13); go_must (refine (works_any _).mono ?_; rintro e w6 ⟨rfl, hb6⟩; have HB6 := hide (below_then HB5.out hb6); have HS := hide (at_first (HK1.out.below HB6.out) (by omega) HX.out).1; clear hb6)))
          go_wp2
          go_ret
          exact ⟨rfl, below_then HB1.out HB6.out⟩
end Go.Proofs.Ytbobjecjopmnfaa
