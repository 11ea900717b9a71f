/- The walks of Recall, Next (the reference's). -/
import Derived.Test.YtbobjecjopmnfaaE1
namespace Go.Proofs.Ytbobjecjopmnfaa
open Go.RowKit
set_option maxHeartbeats 1000000 in
theorem rrecall_any {g : Nat} {m : M} {ok : Nat → Prop} (w : World) (h : At w 92 94 ok g m) :
    Calls Try.prog 52 #[.pointer (some ⟨g, 0, none⟩)] w fun e w' => e = .returned (.int .i64 m.recall.2) ∧ Turned 92 94 ok g m.recall.1 w w' := by
  have hs := h.small
  obtain ⟨v0, v1, v2, hb, h0, h1, h2, a01, a02, a12, hok, hltok, hOk⟩ := h
  obtain ⟨room, D, R, F⟩ := m
  simp only at hb h0 h1 h2 hs
  obtain ⟨A, ca, rfl, _⟩ := h0.slice_
  obtain ⟨B, cb, rfl, _⟩ := h1.slice_
  obtain ⟨C, cc, rfl, _⟩ := h2.slice_
  have hlt := blk_lt hb
  have c1 := blk_cell hb 1
  have c2 := blk_cell hb 2
  have c3 := blk_cell hb 3
  simp at c1 c2 c3
  have HB := hide hb
  have H0 := hide h0
  have H1 := hide h1
  have H2 := hide h2
  have HO := hide hok
  have HL := hide hltok
  have HK := hide hOk
  clear hb h0 h1 h2 a01 a02 a12 hok hltok hOk
  go_enter Try.func52, Try.ntmps52
  go_wp2_with (first | (at_builtin; refine wpList_append_row _ rfl (.tmp 10) (.tmp 14) 48 94 rfl _ 4 40 Try.underlying48 info94 rfl (by decide) (by decide) (.slice none 0 0) 0 [] rfl (Row.nil _ _ _) (fun _ => True) (.slice C F.length cc) F.length (cells F) rfl (H2.out.rd (fun _ _ => trivial)) (cells_one _) (by omega) ?_; intro A1 a1 w1 hrow1 honly1 hfp1; simp only [Nat.zero_add, List.nil_append] at hrow1 hfp1; obtain ⟨hb1, hf1⟩ := own_step (Below.refl w.heap.size w) (fun b h => (Fp_none h).elim) honly1 hfp1; obtain ⟨hlt1, d1, d2, d3⟩ := r_facts HB.out hb1; have HR1 := hide hrow1; have HF1 := hide hf1; have HB1 := hide hb1; clear hrow1 honly1 hfp1 hb1 hf1) | (at_builtin; refine wpList_append_row _ rfl (.tmp 16) (.tmp 20) 48 94 rfl _ 4 40 Try.underlying48 info94 rfl (by decide) (by decide) (.slice A1 F.length a1) F.length (cells F) rfl HR1.out (fun _ => True) (.slice B R.length cb) R.length (cells R) rfl ((H1.out.rd (fun _ _ => trivial)).below HB1.out) (cells_one _) (by omega) ?_; intro A2 a2 w2 hrow2 honly2 hfp2; obtain ⟨hb2, hf2⟩ := own_step HB1.out HF1.out honly2 hfp2; have hg2 := (hb2.block g hlt).trans HB.out; have e2 := blk_cell hg2 2; have e3 := blk_cell hg2 3; have f2 := blk_frozen hg2 2; have f3 := blk_frozen hg2 3; simp at e2 e3; have hlt2 := blk_lt hg2; have HR2 := hide hrow2; have HF2 := hide hf2; have HB2 := hide hb2; clear hrow2 honly2 hfp2 hb2 hf2 hg2))
  go_ret
  refine ⟨rfl, ?_⟩
  have hg2 := (HB2.out.block g hlt).trans HB.out
  refine At.stored (u0 := .slice A D.length ca) (u1 := .slice A2 (F.length + R.length) a2) (u2 := .slice none 0 0) HB.out HB2.out ((Only.one _ g 2 _).trans (Only.one _ g 3 _) (fun b h => .inl h)) (blk_set (blk_set hg2 2 _) 3 _) (H0.out.keep (fun b h => HB2.out.block b (H0.out.lt b h))) ?_ (Row.nil _ _ _) ?_ ?_ ?_ ?_ (HO.out _ (.inl rfl)) HL.out (by decide) ?_
  · simp only [M.recall, List.length_append, cells_append]; exact HR2.out
  · exact fun b h h' => absurd (HF2.out b h') (by have := H0.out.lt b h; omega)
  · exact fun b _ h' => Fp_none h'
  · exact fun b _ h' => Fp_none h'
  · rintro b (h | h | h)
    · exact .inl (HO.out b (.inr (.inl h)))
    · exact .inr (HF2.out b h)
    · exact (Fp_none h).elim
  · exact ⟨HK.out.lo, HK.out.hi, by have := HK.out.fits; simp only [M.recall, M.len, List.length_append, List.length_nil] at *; omega, fun e he => by simp [M.recall] at he⟩
end Go.Proofs.Ytbobjecjopmnfaa
