/- The walk of words.Fields. -/
import Derived.Test.YtkphbgicffhceaaDoorWordRunes
namespace Go.Proofs.YtkphbgicffhceaaDoor.Words
set_option linter.unusedSimpArgs false
set_option linter.unusedVariables false
open Go Go.RowKit Go.Proofs.YtkphbgicffhceaaDoor
attribute [local irreducible] Calls

/-- Where a word began, if one did. -/
def From (l : List UInt8) (pos : Nat) (cur : List UInt8) (fv : Int) : Prop := (cur = [] ∧ fv = -1) ∨ (cur ≠ [] ∧ ∃ f : Nat, fv = (f : Int) ∧ f < pos ∧ (l.take pos).drop f = cur)
set_option maxRecDepth 100000 in
set_option maxHeartbeats 1000000 in
theorem fields_any (s : ByteArray) (hs : s.size ≤ 1000000) (w : World) : Calls Tryd.prog 13 #[.string s] w (fun e w' => ∃ v, e = .returned v ∧ St w none0 w' [rowA 1 v (fieldsL s.data.toList).length (strsL (fieldsL s.data.toList))]) := by
  obtain ⟨l, hl⟩ : ∃ l, l = s.data.toList := ⟨_, rfl⟩
  have hsz : l.length = s.size := by rw [hl]; simp
  rw [← hl]
  obtain ⟨F, hF⟩ : ∃ F, F = fieldsL l := ⟨_, rfl⟩
  rw [← hF]
  obtain ⟨i0, hi, hz, hz1, hz2⟩ := info_parts str_info
  have H1 : St w none0 (w.iter s 0) [objA w.heap.size (.stringIter s 0), rowA 1 (.slice none 0 0) 0 (strsL [])] := ((St.zero w).row_nil (size := 1)).newObj (.stringIter s 0)
  replace hl := Lib.hid hl; replace hsz := Lib.hid hsz; replace hF := Lib.hid hF; replace H1 := Lib.hid H1
  go_enter Tryd.func13, Tryd.ntmps13
  go_wp2_with fail
  go_loopg [3, 4] s.size (fun g ov fv wr => ∃ (pos : Nat) (a : Option Addr) (c : Nat) (out : List (List UInt8)) (cur : List UInt8) (fi : Int), pos ≤ s.size ∧ Hid (g = s.size - pos) ∧ fv = .int .i64 fi ∧ ov = .slice a out.length c ∧
    Hid (fFold (l.take pos) = (out, cur)) ∧ Hid (From l pos cur fi) ∧ Hid (St w none0 wr [objA w.heap.size (.stringIter s pos), rowA 1 (.slice a out.length c) out.length (strsL out)]))
  case atStart => exact ⟨0, none, 0, [], [], -1, by omega, Lib.hid rfl, rfl, rfl, Lib.hid rfl, Lib.hid (.inl ⟨rfl, rfl⟩), H1⟩
  case round =>
    clear H1
    obtain ⟨pos, a, c, out, cur, fi, hp, hg, rfl, rfl, hf, hfr, HL⟩ := hrel
    have hk := HL.out.obj 0 rfl
    have hn0 := fold_len0 (l.take pos)
    rw [hf.out, List.length_take] at hn0
    simp only at hn0
    have hlo : out.length ≤ s.size := by omega
    have hlc : cur.length ≤ s.size := by omega
    by_cases hlt : pos < s.size
    · have hjl : pos < l.length := by have := hsz.out; omega
      have hcj : s[pos] = l[pos] := at_list hl.out hlt hjl
      by_cases hb : (s[pos]).toNat = 32
      · have hnext : ∀ ty, (Instr.next (.pointer (some ⟨w.heap.size, 0, none⟩)) true ty).run Tryd.prog wr = .ok (.tuple #[.bool true, .int .i64 pos, .int .i32 32]) (wr.iterAt w.heap.size s (pos + 1)) := fun ty => by
          have := Lib.run_next_ascii_at (P := Tryd.prog) wr w.heap.size s pos ty hk hlt (by omega)
          rw [this, hb]
          rfl
        have hnx := fold_take hjl
        rw [hf.out, ← hcj] at hnx
        unfold fStep at hnx
        rw [if_pos (UInt8.toNat_inj.1 (by rw [hb]; rfl))] at hnx
        have H2 := st_iter HL.out (pos + 1)
        clear hk HL hf hcj
        generalize wr.iterAt w.heap.size s (pos + 1) = W1 at *
        rcases hfr.out with ⟨rfl, rfl⟩ | ⟨hne, f, rfl, hfp, hcut⟩
        · rw [if_pos rfl] at hnx
          simp only at hnx
          replace hnx := Lib.hid hnx; replace H2 := Lib.hid H2
          go_wp2_with fail
          clear hnext
          go_roundg (s.size - (pos + 1))
          case measure => have := hg.out; omega
          case rel => exact ⟨pos + 1, a, c, out, [], -1, by omega, Lib.hid rfl, rfl, rfl, hnx, Lib.hid (.inl ⟨rfl, rfl⟩), H2⟩
        · rw [if_neg hne] at hnx
          simp only at hnx
          have hx : s.extract f pos = strL cur := by rw [cut_at hl.out, hcut]
          have q0 : decide ((0 : Int) ≤ (f : Int)) = true := decide_eq_true (by omega)
          clear hcut hfr hne
          replace hnx := Lib.hid hnx; replace H2 := Lib.hid H2
          go_wp2_with (at_builtin; (refine wpList_appS rfl (.tmp 20) (.tmp 25) _ rfl 9 i0 _ 1 16 Tryd.underlying27 hi hz hz1 hz2 rfl (by omega) 1 _ out.length (strsL out) rfl H2.out rfl 1 1 [.string (strL cur)] rfl rfl (by simp [Value.oneCell']) (by omega) (by omega) ?_; intro v5 w5 H5; obtain ⟨l5, c5, rfl, _⟩ := St.slice (by omega) 0 H5 rfl; replace H5 := Lib.hid H5))
          clear hnext
          go_roundg (s.size - (pos + 1))
          case measure => have := hg.out; omega
          case rel =>
            refine ⟨pos + 1, l5, c5, out ++ [cur], [], -1, by omega, Lib.hid rfl, rfl, by rw [List.length_append]; rfl, hnx, Lib.hid (.inl ⟨rfl, rfl⟩), Lib.hid ?_⟩
            rw [List.length_append, ← strsL_app]
            exact (H5.out.arrN [1, 0] rfl).drops 2
      · obtain ⟨d1, d2, _⟩ := decode_w s pos hlt
        have hnx := fold_rune hl.out hlt hb hf.out
        have hnext : ∀ ty, (Instr.next (.pointer (some ⟨w.heap.size, 0, none⟩)) true ty).run Tryd.prog wr = .ok (.tuple #[.bool true, .int .i64 pos, .int .i32 (Utf8.decode s pos).1]) (wr.iterAt w.heap.size s (pos + (Utf8.decode s pos).2)) := fun ty => Lib.run_next_any_at (P := Tryd.prog) wr w.heap.size s pos ty hk hlt
        have hne32 : (Utf8.decode s pos).1 ≠ 32 := by
          by_cases h128 : (s[pos]).toNat < 128
          · rw [decode_ascii s pos hlt h128]; exact hb
          · have := decode_big s pos hlt (by omega)
            omega
        have H2 := st_iter HL.out (pos + (Utf8.decode s pos).2)
        have hle := decode_le s pos
        clear hk HL hf hcj hb
        generalize wr.iterAt w.heap.size s (pos + (Utf8.decode s pos).2) = W1 at *
        generalize (Utf8.decode s pos).1 = cr at *
        generalize (Utf8.decode s pos).2 = wd at *
        have kc : ((cr : Int) == 32) = false := by rw [beq_eq_false_iff_ne]; omega
        have kc' : ((cr : Int) != 32) = true := by rw [bne_iff_ne]; omega
        rcases hfr.out with ⟨rfl, rfl⟩ | ⟨hne, f, rfl, hfp, hcut⟩
        · have hfr2 : Hid (From l (pos + wd) ([] ++ (l.drop pos).take wd) (pos : Int)) := Lib.hid (.inr ⟨by
              intro h
              have := congrArg List.length h
              rw [List.nil_append, List.length_take, List.length_drop] at this
              simp only [List.length_nil] at this
              omega, pos, rfl, by omega, by rw [List.take_add, List.drop_append, List.length_take, List.drop_of_length_le (by rw [List.length_take]; omega), show pos - min pos l.length = 0 by omega, List.drop_zero]⟩)
          clear hfr hne32
          replace hnx := Lib.hid hnx; replace H2 := Lib.hid H2
          go_wp2_with fail
          clear hnext
          go_roundg (s.size - (pos + wd))
          case measure => have := hg.out; omega
          case rel => exact ⟨pos + wd, a, c, out, _, pos, by omega, Lib.hid rfl, rfl, rfl, hnx, hfr2, H2⟩
        · have q0 : decide ((f : Int) < 0) = false := decide_eq_false (by omega)
          have hfr2 : Hid (From l (pos + wd) (cur ++ (l.drop pos).take wd) (f : Int)) := Lib.hid (.inr ⟨by
              intro h
              exact hne (List.append_eq_nil_iff.1 h).1, f, rfl, by omega, by rw [List.take_add, List.drop_append_of_le_length (by rw [List.length_take]; omega), hcut]⟩)
          clear hfr hne32 hcut hne
          replace hnx := Lib.hid hnx; replace H2 := Lib.hid H2
          go_wp2_with fail
          clear hnext
          go_roundg (s.size - (pos + wd))
          case measure => have := hg.out; omega
          case rel => exact ⟨pos + wd, a, c, out, _, f, by omega, Lib.hid rfl, rfl, rfl, hnx, hfr2, H2⟩
    · obtain rfl : pos = s.size := by omega
      have hnext : ∀ ty, (Instr.next (.pointer (some ⟨w.heap.size, 0, none⟩)) true ty).run Tryd.prog wr = .ok (.tuple #[.bool false]) wr := fun ty => Lib.run_next_end_at (P := Tryd.prog) wr w.heap.size s s.size ty hk (by omega)
      have hall : l.take s.size = l := List.take_of_length_le (by have := hsz.out; omega)
      have hf2 := hf.out
      rw [hall] at hf2
      have hFE : F = fEnd (out, cur) := by rw [hF.out]; unfold fieldsL; rw [hf2]
      unfold fEnd at hFE
      rcases hfr.out with ⟨rfl, rfl⟩ | ⟨hne, f, rfl, hfp, hcut⟩
      · rw [if_pos rfl] at hFE
        simp only at hFE
        clear hk hf hf2 hall hF
        replace hFE := Lib.hid hFE
        go_wp2_with fail
        go_ret
        rw [hFE.out]
        exact ⟨_, rfl, HL.out.drop 0 rfl⟩
      · rw [if_neg hne] at hFE
        simp only at hFE
        have hx : s.extract f s.size = strL cur := by rw [cut_at hl.out, hcut]
        have q0 : decide ((0 : Int) ≤ (f : Int)) = true := decide_eq_true (by omega)
        clear hk hf hf2 hall hF hcut hne hfr
        replace hFE := Lib.hid hFE
        go_wp2_with (at_builtin; (refine wpList_appS rfl (.tmp 37) (.tmp 41) _ rfl 9 i0 _ 1 16 Tryd.underlying27 hi hz hz1 hz2 rfl (by omega) 1 _ out.length (strsL out) rfl HL.out rfl 1 1 [.string (strL cur)] rfl rfl (by simp [Value.oneCell']) (by omega) (by omega) ?_; intro v5 w5 H5; obtain ⟨l5, c5, rfl, _⟩ := St.slice (by omega) 0 H5 rfl; replace H5 := Lib.hid H5))
        go_ret
        rw [hFE.out, List.length_append, ← strsL_app]
        exact ⟨_, rfl, (H5.out.drops 1)⟩
end Go.Proofs.YtkphbgicffhceaaDoor.Words
