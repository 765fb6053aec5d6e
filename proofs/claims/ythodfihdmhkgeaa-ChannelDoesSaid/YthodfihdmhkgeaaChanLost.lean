/- The walks of the package channel: what was lost. -/
import Derived.Test.YthodfihdmhkgeaaChanPart
namespace Go.Proofs.Ythodfihdmhkgeaa.Chan
set_option linter.unusedSimpArgs false
set_option linter.unusedVariables false
open Go Go.RowKit Go.Proofs.Ythodfihdmhkgeaa
attribute [local irreducible] Calls

def numB (got : List Dg) (n : Int) : Bool := got.any fun g => g.1 == n
def lostL (sent got : List Dg) : List Int := (sent.filter fun d => !numB got d.1).map (·.1)
theorem lost_take {sent : List Dg} {k : Nat} (got : List Dg) (h : k < sent.length) : lostL (sent.take (k + 1)) got = lostL (sent.take k) got ++ (if numB got sent[k].1 then [] else [sent[k].1]) := by
  unfold lostL
  rw [List.take_succ_eq_append_getElem h, List.filter_append, List.map_append]
  congr 1
  cases hb : numB got sent[k].1 <;> simp [hb]
theorem lost_len (sent got : List Dg) : (lostL sent got).length ≤ sent.length := by
  unfold lostL
  rw [List.length_map]
  exact List.length_filter_le _ _
theorem int_info : (Try.prog.info? 3).map (fun i => (i.zero, i.size, i.bytes)) = some (some (.int .i64 0), 1, 8) := by kernel_rfl
theorem i64s_app (l : List Int) (n : Int) : i64s l ++ [Value.int .i64 n] = i64s (l ++ [n]) := by simp [i64s]

theorem lostf_any (g : Dg) (c : Nat) (x : Int) (w : World) (hz : c < w.heap.size) (hx : w.cell? ⟨c, 0, none⟩ = some (.int .i64 x)) :
    Calls Try.prog 68 #[.agg #[.int .i64 g.1, .string g.2], .pointer (some ⟨c, 0, none⟩)] w (Ret w (.bool (g.1 == x))) := by
  go_enter Try.func68, Try.ntmps68
  go_wp2_with fail
  go_ret
  exact Ret.mk rfl (by repeat (first | with_reducible exact Below.refl _ _ | (with_reducible refine Below.al ?_) | (with_reducible refine Below.drew ?_) | (with_reducible refine Below.set ?_ (by first | (simp; done) | omega | (simp; omega))) | (with_reducible refine Below.thru ?_ (by assumption)) | (with_reducible refine Below.chg ?_ (by assumption) (by first | (simp; done) | omega | (simp; omega)))))

set_option maxHeartbeats 400000 in
theorem indexFunc_any (l : List Dg) (c : Nat) (x : Int) (n : Nat) (hl : l.length = n) (hn : n ≤ maxLen) (a : Option Addr) (cap : Nat) (w : World) (h : Rd w a (dgs l)) (hz : c < w.heap.size) (hx : w.cell? ⟨c, 0, none⟩ = some (.int .i64 x)) :
    Calls Try.prog 87 #[.slice a n cap, .func (.func 68) #[] #[.pointer (some ⟨c, 0, none⟩)]] w (Ret w (.int .i64 (idxF (fun g : Dg => g.1 == x) l))) := by
  unfold maxLen at hn
  have H := Lib.hid h
  have HL := Lib.hid hl
  have HX := Lib.hid hx
  clear h hl hx
  go_enter Try.func87, Try.ntmps87
  go_wp2_with fail
  go_loopg [5, 8] n (fun g _ i wr => ∃ k : Nat, k ≤ n ∧ g = n - k ∧ i = .int .i64 k ∧ Below w.heap.size w wr ∧ Hid (∀ i (hi : i < l.length), i < k → (l[i].1 == x) = false))
  case atStart => exact ⟨0, by omega, by omega, rfl, (by repeat (first | with_reducible exact Below.refl _ _ | (with_reducible refine Below.al ?_) | (with_reducible refine Below.drew ?_) | (with_reducible refine Below.set ?_ (by first | (simp; done) | omega | (simp; omega))) | (with_reducible refine Below.thru ?_ (by assumption)) | (with_reducible refine Below.chg ?_ (by assumption) (by first | (simp; done) | omega | (simp; omega))))), fun i _ h => by omega⟩
  case round =>
    obtain ⟨k, hk, hg, rfl, hbw, hno⟩ := hrel
    by_cases hlt : k < n
    · have hkl : k < l.length := by have := HL.out; omega
      obtain ⟨b, off, rfl, hb, hc⟩ := dgs_at (H.out.below hbw) HL.out (by omega)
      obtain ⟨e0, e1⟩ := hc k hkl
      have hx' : wr.cell? ⟨c, 0, none⟩ = some (.int .i64 x) := ((Below.blk hbw hz).1 0).trans HX.out
      have hz' : c < wr.heap.size := Nat.lt_of_lt_of_le hz hbw.size
      clear hc
      replace hx' := Lib.hid hx'
      go_wp2_with fail
      refine Calls.mono (lostf_any l[k] c x _ hz' hx'.out) ?_
      rintro e w1 ⟨rfl, hb1⟩
      have z1 := Below.size hb1; try simp only [World.size_alloc, World.size_setCell, World.size_drew] at z1
      cases hq : (l[k].1 == x)
      · have hno' : Hid (∀ i (hi : i < l.length), i < k + 1 → (l[i].1 == x) = false) := fun i hi h => by
          by_cases e : i = k
          · subst e; exact hq
          · exact hno.out i hi (by omega)
        go_wp2_with fail
        go_roundg (n - (k + 1))
        case measure => omega
        case rel => exact ⟨k + 1, by omega, rfl, by go_num, (by repeat (first | with_reducible exact Below.refl _ _ | (with_reducible refine Below.al ?_) | (with_reducible refine Below.drew ?_) | (with_reducible refine Below.set ?_ (by first | (simp; done) | omega | (simp; omega))) | (with_reducible refine Below.thru ?_ (by assumption)) | (with_reducible refine Below.chg ?_ (by assumption) (by first | (simp; done) | omega | (simp; omega))))), hno'⟩
      · have hf := idx_some (p := fun g : Dg => g.1 == x) hkl hq hno.out
        replace hf := Lib.hid hf
        go_wp2_with fail
        go_ret
        exact Ret.mk (congrArg (Value.int .i64) hf.out.symm) (by repeat (first | with_reducible exact Below.refl _ _ | (with_reducible refine Below.al ?_) | (with_reducible refine Below.drew ?_) | (with_reducible refine Below.set ?_ (by first | (simp; done) | omega | (simp; omega))) | (with_reducible refine Below.thru ?_ (by assumption)) | (with_reducible refine Below.chg ?_ (by assumption) (by first | (simp; done) | omega | (simp; omega)))))
    · have hf : idxF (fun g : Dg => g.1 == x) l = -1 := idx_none fun i hi => hno.out i hi (by have := HL.out; omega)
      replace hf := Lib.hid hf
      go_wp2_with fail
      go_ret
      exact Ret.mk (congrArg (Value.int .i64) hf.out.symm) (by repeat (first | with_reducible exact Below.refl _ _ | (with_reducible refine Below.al ?_) | (with_reducible refine Below.drew ?_) | (with_reducible refine Below.set ?_ (by first | (simp; done) | omega | (simp; omega))) | (with_reducible refine Below.thru ?_ (by assumption)) | (with_reducible refine Below.chg ?_ (by assumption) (by first | (simp; done) | omega | (simp; omega)))))
theorem containsFunc_any (l : List Dg) (c : Nat) (x : Int) (n : Nat) (hl : l.length = n) (hn : n ≤ maxLen) (a : Option Addr) (cap : Nat) (w : World) (h : Rd w a (dgs l)) (hz : c < w.heap.size) (hx : w.cell? ⟨c, 0, none⟩ = some (.int .i64 x)) :
    Calls Try.prog 67 #[.slice a n cap, .func (.func 68) #[] #[.pointer (some ⟨c, 0, none⟩)]] w (Ret w (.bool (numB l x))) := by
  have H := Lib.hid h
  have HL := Lib.hid hl
  have HX := Lib.hid hx
  clear h hl hx
  have hi := idx_ge (fun g : Dg => g.1 == x) l
  replace hi := Lib.hid hi
  go_enter Try.func67, Try.ntmps67
  go_wp2_with fail
  refine Calls.mono (indexFunc_any l c x n HL.out hn a cap _ H.out hz HX.out) ?_
  rintro e w1 ⟨rfl, hb1⟩
  have z1 := Below.size hb1; try simp only [World.size_alloc, World.size_setCell, World.size_drew] at z1
  go_wp2_with fail
  go_ret
  exact Ret.mk (congrArg Value.bool hi.out) (by repeat (first | with_reducible exact Below.refl _ _ | (with_reducible refine Below.al ?_) | (with_reducible refine Below.drew ?_) | (with_reducible refine Below.set ?_ (by first | (simp; done) | omega | (simp; omega))) | (with_reducible refine Below.thru ?_ (by assumption)) | (with_reducible refine Below.chg ?_ (by assumption) (by first | (simp; done) | omega | (simp; omega)))))

/-- A list of integers handed back, in memory of the call's own. -/
def RetL (w : World) (L : List Int) (e : Ending) (w' : World) : Prop := ∃ v, e = .returned v ∧ St w none0 w' [rowA 1 v L.length (i64s L)]
theorem RetL.mk {w w' : World} {v u : Value} {L : List Int} (h : St w none0 w' [rowA 1 v L.length (i64s L)]) (e : u = v) : RetL w L (.returned u) w' := ⟨v, by rw [e], h⟩

set_option maxHeartbeats 800000 in
theorem lost_any (sent got : List Dg) (n m : Nat) (hl : sent.length = n) (hn : n ≤ 100000) (gl : got.length = m) (hm : m ≤ maxLen) (a : Option Addr) (cap : Nat) (a' : Option Addr) (cap' : Nat) (w : World) (h : Rd w a (dgs sent)) (g : Rd w a' (dgs got)) :
    Calls Try.prog 24 #[.slice a n cap, .slice a' m cap'] w (RetL w (lostL sent got)) := by
  obtain ⟨i0, hi, hz, hz1, hz2⟩ := info_parts int_info
  have hm' := hm
  unfold maxLen at hm
  have H := Lib.hid h
  have HL := Lib.hid hl
  have G := Lib.hid g
  have GL := Lib.hid gl
  clear h hl g gl
  go_enter Try.func24, Try.ntmps24
  go_wp2_with fail
  go_loopg [5, 7, 10] n (fun g v _ i wr => ∃ (k : Nat) (L : List Int), k ≤ n ∧ g = n - k ∧ i = .int .i64 k ∧ Hid (L = lostL (sent.take k) got) ∧ L.length ≤ k ∧ St w none0 wr [rowA 1 v L.length (i64s L)])
  case atStart => exact ⟨0, [], by omega, by omega, rfl, rfl, by simp, (St.zero w).row_nil⟩
  case round =>
    obtain ⟨tv, htv⟩ : ∃ tv, tv = u5 := ⟨_, rfl⟩
    subst htv
    obtain ⟨k, L, hk, hg, rfl, hL, hLk, hst⟩ := hrel
    have hbw := hst.below
    have zw := hbw.size
    replace hst := Lib.hid hst
    by_cases hlt : k < n
    · have hkl : k < sent.length := by have := HL.out; omega
      obtain ⟨b, off, rfl, hb, hc⟩ := dgs_at (H.out.below hbw) HL.out (by omega)
      obtain ⟨e0, e1⟩ := hc k hkl
      clear hc
      have hnx := lost_take got hkl
      generalize sent[k] = d at *
      have hst1 : St w none0 (wr.alloc (.cells #[.int .i64 d.1, .string d.2] 32)) [rowA 1 tv L.length (i64s L)] := hst.out.skip _
      have hR : Rd (wr.alloc (.cells #[.int .i64 d.1, .string d.2] 32)) a' (dgs got) := G.out.of_st hst1
      replace hnx := Lib.hid hnx; replace hst1 := Lib.hid hst1; replace hR := Lib.hid hR
      go_wp2_with fail
      refine Calls.mono (containsFunc_any got wr.heap.size d.1 m GL.out hm' a' cap' _ hR.out (by simp) (by simp)) ?_
      rintro e w1 ⟨rfl, hb1⟩
      have z1 := Below.size hb1; try simp only [World.size_alloc, World.size_setCell, World.size_drew] at z1
      obtain ⟨c1_0, f1_0⟩ := Below.blk hb1 (b := wr.heap.size) (by first | (simp; done) | omega | (simp; omega))
      have z1_0 : wr.heap.size < w1.heap.size := (by first | (simp; done) | omega | (simp; omega))
      have hst2 := hst1.out.thru hb1
      replace hst2 := Lib.hid hst2
      cases hq : numB got d.1
      · have hL' : Hid (L ++ [d.1] = lostL (sent.take (k + 1)) got) := by
          show _ = _
          rw [hnx.out, ← hL.out, hq]
          rfl
        go_wp2_with (at_builtin; (refine wpList_appS rfl (.tmp 18) (.tmp 21) _ rfl 3 i0 _ 1 8 Try.underlying27 hi hz hz1 hz2 rfl (by omega) 0 tv L.length _ rfl hst2.out rfl 1 1 [.int .i64 d.1] rfl rfl (by intro u hu; simp at hu; subst hu; rfl) (by omega) (by omega) ?_; intro v' w5 H5))
        rw [i64s_app] at H5
        replace H5 := Lib.hid H5
        go_wp2_with fail
        go_roundg (n - (k + 1))
        case measure => omega
        case rel => exact ⟨k + 1, L ++ [d.1], by omega, rfl, by go_num, hL', by simp; omega, by rw [List.length_append]; exact H5.out⟩
      · have hL' : Hid (L = lostL (sent.take (k + 1)) got) := by
          show _ = _
          rw [hnx.out, ← hL.out, hq]
          simp
        go_wp2_with fail
        go_roundg (n - (k + 1))
        case measure => omega
        case rel => exact ⟨k + 1, L, by omega, rfl, by go_num, hL', by omega, hst2.out⟩
    · have hf : L = lostL sent got := by rw [hL.out, List.take_of_length_le (by have := HL.out; omega)]
      replace hf := Lib.hid hf
      go_wp2_with fail
      go_ret
      rw [← hf.out]
      exact RetL.mk hst.out rfl
end Go.Proofs.Ythodfihdmhkgeaa.Chan
