/- The walks of strings.Builder: copyCheck, WriteByte, String. -/
import Derived.Test.YtljgmephajocaaaMore
import Derived.Lib.Builder
import Derived.Lib.UnsafeStr
import Derived.Laws.Externs
namespace Go.Proofs.Ytljgmephajocaaa.Build
set_option linter.unusedSimpArgs false
set_option linter.unusedVariables false
open Go Go.RowKit Go.Proofs.Ytljgmephajocaaa
attribute [local irreducible] Calls

def byteL (l : List UInt8) : List Value := Lib.byteCells l
/-- A builder of the call's own that holds these bytes. -/
def Bld (B b : Nat) (l : List UInt8) (w : World) : Prop :=
  Lib.IsBuilder 144 5 B b (Lib.byteCells l) w ∧ (l = [] → ∃ p, w.heap[b]? = some (.cells #[p, .slice none 0 0] 144 (0, 0)))
theorem size_bld : (Try.prog.info? 144).map (·.size) = some 2 := by kernel_rfl
theorem lies_bld : liesAt Try.prog Try.prog.depth 144 (2 / Try.prog.cellsOf 144) 0 144 1 = true := by kernel_rfl
theorem byte_info : (Try.prog.info? 5).map (fun i => (i.zero, i.size, i.bytes)) = some (some (.int .u8 0), 1, 1) := by kernel_rfl
theorem at_lt {T e : TypeId} {B b : Nat} {bs : List Value} {w : World} (h : Lib.IsBuilder T e B b bs w) : b < w.heap.size ∧ B ≤ b := by
  rcases h with h | h
  · exact ⟨h.lt, h.1⟩
  · exact ⟨h.lt, h.1⟩
theorem at_thru {T e : TypeId} {B b : Nat} {p : Value} {bs : List Value} {w w' : World} (h : Lib.BuilderAt T e B b p bs w) (hb : Below w.heap.size w w') : Lib.BuilderAt T e B b p bs w' := by
  have hlt := h.lt
  obtain ⟨hB, v, hk, hown, hne⟩ := h
  refine ⟨hB, v, by rw [hb.block b hlt]; exact hk, hown.kept (row := none) (grown_of_below (B := 0) hb) (by cases v.ownBlock <;> simp), hne⟩
theorem Bld.thru {B b : Nat} {l : List UInt8} {w w' : World} (h : Bld B b l w) (hb : Below w.heap.size w w') : Bld B b l w' := by
  have hlt := (at_lt h.1).1
  refine ⟨?_, fun e => ?_⟩
  · rcases h.1 with k | k
    · exact .inl (at_thru k hb)
    · exact .inr (at_thru k hb)
  · obtain ⟨p, hp⟩ := h.2 e
    exact ⟨p, by rw [hb.block b hlt]; exact hp⟩
theorem Bld.new (w : World) : Bld w.heap.size w.heap.size [] (w.alloc (.cells #[.pointer none, .slice none 0 0] 144)) :=
  ⟨Lib.fresh_isBuilder _ _ w, fun _ => ⟨_, Go.heap_alloc_new w _⟩⟩
theorem Bld.base {B B' b : Nat} {w : World} {l : List UInt8} (h : Bld B b l w) (hB : B' ≤ B) : Bld B' b l w := by
  refine ⟨?_, h.2⟩
  have key : ∀ p, Lib.BuilderAt 144 5 B b p (Lib.byteCells l) w → Lib.BuilderAt 144 5 B' b p (Lib.byteCells l) w := by
    rintro p ⟨h1, v, h2, h3, h4⟩
    refine ⟨Nat.le_trans hB h1, v, h2, ⟨h3.1, ?_⟩, h4⟩
    rcases h3.2 with h | ⟨g, cap, cur, e, hg, r⟩
    · exact .inl h
    · exact .inr ⟨g, cap, cur, e, Nat.le_trans hB hg, r⟩
  rcases h.1 with k | k
  · exact .inl (key _ k)
  · exact .inr (key _ k)

set_option maxRecDepth 100000 in
theorem check_used (b : Nat) (w : World) (h0 : w.cell? ⟨b, 0, none⟩ = some (.pointer (some ⟨b, 0, none⟩))) :
    Calls Try.prog 136 #[.pointer (some ⟨b, 0, none⟩)] w fun e w' => e = .returned (.tuple #[]) ∧ w' = w := by
  obtain ⟨j, hj, _⟩ := Option.map_eq_some_iff.1 size_bld
  have hne := fun W : World => Lib.run_neq_ptr_same (P := Try.prog) (w := W) ⟨b, 0, none⟩ Try.underlying141 hj
  go_enter Try.func136, Try.ntmps136
  go_wp2_with fail
  go_end0
  exact ⟨rfl, rfl⟩
set_option maxRecDepth 100000 in
theorem check_fresh (b : Nat) (w : World) (h0 : w.cell? ⟨b, 0, none⟩ = some (.pointer none)) (hsh : w.shape? b = some (144, 2)) (hfz : w.frozen? ⟨b, 0, none⟩ = false) :
    Calls Try.prog 136 #[.pointer (some ⟨b, 0, none⟩)] w fun e w' => e = .returned (.tuple #[]) ∧ w' = w.setCell ⟨b, 0, none⟩ (.pointer (some ⟨b, 0, none⟩)) := by
  obtain ⟨j, hj, hjs⟩ := Option.map_eq_some_iff.1 size_bld
  have c1 := Lib.run_to_unsafe (P := Try.prog) (w := w) ⟨b, 0, none⟩ Try.underlying141 Try.underlying220 hj (by rw [hjs]; decide) hsh (Nat.zero_lt_succ 1)
  have c3 := Lib.run_from_unsafe (P := Try.prog) (w := w) ⟨b, 0, none⟩ Try.underlying220 Try.underlying141 hj hsh lies_bld
  have c2 : (callFunc 160 #[.pointer (some ⟨b, 0, none⟩)]).run Try.prog w = .ok (.value (.pointer (some ⟨b, 0, none⟩))) w := by
    rw [run_callFunc_extern Try.func160 (by kernel_rfl) (by kernel_rfl) (by kernel_rfl) (e := Extern.AbiNoEscape.same) (by kernel_rfl), Lib.run_noEscape]
    rfl
  go_enter Try.func136, Try.ntmps136
  go_wp2_with fail
  go_end0
  exact ⟨rfl, rfl⟩
theorem check_any (B b : Nat) (bs : List Value) (w : World) (h : Lib.IsBuilder 144 5 B b bs w) :
    Calls Try.prog 136 #[.pointer (some ⟨b, 0, none⟩)] w fun e w' => e = .returned (.tuple #[]) ∧ (Lib.BuilderAt 144 5 B b (.pointer (some ⟨b, 0, none⟩)) bs w' ∧ Below B w w') := by
  rcases h with h | h
  · refine (check_fresh b w h.cell0 h.shape h.frozen0).mono ?_
    rintro e w' ⟨rfl, rfl⟩
    exact ⟨rfl, h.used _, (Below.refl B w).setCell (p := ⟨b, 0, none⟩) h.1 _⟩
  · refine (check_used b w h.cell0).mono ?_
    rintro e w' ⟨rfl, rfl⟩
    exact ⟨rfl, h, Below.refl B _⟩
theorem byteCells_snoc (l : List UInt8) (x : UInt8) : Lib.byteCells l ++ [.int .u8 (x.toNat : Int)] = Lib.byteCells (l ++ [x]) := by simp [Lib.byteCells]
set_option maxRecDepth 100000 in
set_option maxHeartbeats 400000 in
theorem byte_any (B b : Nat) (l : List UInt8) (x : UInt8) (w : World) (h : Bld B b l w) (hlen : l.length + 1 ≤ 140737488355328) (hBw : B ≤ w.heap.size) :
    Calls Try.prog 92 #[.pointer (some ⟨b, 0, none⟩), .int .u8 x.toNat] w fun e w' => e = .returned .nilIface ∧ Bld B b (l ++ [x]) w' ∧ Below B w w' := by
  obtain ⟨i0, hi, hz0, hz1, hz2⟩ := info_parts byte_info
  have hll : (Lib.byteCells l).length = l.length := Lib.byteCells_length l
  have C := check_any B b _ w h.1
  clear h
  go_enter Try.func92, Try.ntmps92
  go_wp2_with fail
  refine Calls.mono C ?_
  rintro e w1 ⟨rfl, h1, hb1⟩
  obtain ⟨hB, v, hbk, hown, hne⟩ := h1
  have c0 : w1.cell? ⟨b, 0, none⟩ = some (.pointer (some ⟨b, 0, none⟩)) := by rw [Lib.cell_of_heap hbk]; rfl
  have c1 : w1.cell? ⟨b, 1, none⟩ = some v := by rw [Lib.cell_of_heap hbk]; rfl
  clear C
  have z1 := hb1.size
  go_wp2_with (at_builtin; refine wpList_append_own _ rfl _ _ 142 rfl B 5 i0 (.int .u8 0) 1 1 Try.underlying142 hi hz0 hz1 hz2 rfl (by decide) _ _ _ rfl (hown.alloc _) ⟨w1.heap.size, 0, none⟩ 1 1 [.int .u8 x.toNat] rfl rfl ?c1 ?c2 ?c3 ?c4 ?c5 ?_)
  case c1 =>
    intro j u hj
    match j, hj with
    | 0, hj => simp at hj; subst hj; simp [Addr.add]
  case c2 => intro u hu; simp at hu; subst hu; rfl
  case c3 => unfold maxLen; omega
  case c4 => omega
  case c5 => simp; omega
  intro v' w2 hown' hgrow _
  have hlt : b < w1.heap.size := by
    rcases Nat.lt_or_ge b w1.heap.size with h' | h'
    · exact h'
    · simp [Array.getElem?_eq_none h'] at hbk
  have hb2 : w2.heap[b]? = some (.cells #[.pointer (some ⟨b, 0, none⟩), v] 144 (0, 0)) := by
    rw [hgrow.block b (by simp; omega) (fun e => hne e.symm), Lib.alloc_old w1 _ b hlt]
    exact hbk
  have d0 : w2.cell? ⟨b, 0, none⟩ = some (.pointer (some ⟨b, 0, none⟩)) := by rw [Lib.cell_of_heap hb2]; rfl
  have d1 : w2.cell? ⟨b, 1, none⟩ = some v := by rw [Lib.cell_of_heap hb2]; rfl
  have f1 : w2.frozen? ⟨b, 1, none⟩ = false := Lib.frozen_of_heap hb2 1
  rw [byteCells_snoc] at hown'
  obtain ⟨g, cap, rfl⟩ : ∃ g cap, v' = .slice (some ⟨g, 0, none⟩) (l.length + 1) cap := by
    rcases hown'.2 with ⟨_, h0⟩ | ⟨g, cap, cur, hv, _⟩
    · omega
    · exact ⟨g, cap, hv⟩
  have H1 := Lib.BuilderAt.put (T := 144) (e := 5) hB hb2 (bs' := Lib.byteCells (l ++ [x])) (by rw [Lib.byteCells_length, List.length_append]; exact hown') (by decide)
  have H2 := ((hb1.alloc (by omega) (.cells #[.int .u8 x.toNat] 5)).grown hgrow (by simp; omega) (fun k hk => (hown.lt k hk).1)).setCell (p := ⟨b, 1, none⟩) hB (.slice (some ⟨g, 0, none⟩) (l.length + 1) cap)
  clear hown hown' hgrow
  replace H1 := Lib.hid H1; replace H2 := Lib.hid H2
  go_wp2_with fail
  go_ret
  exact ⟨rfl, ⟨.inr H1.out, fun e => by simp at e⟩, H2.out⟩
set_option maxRecDepth 100000 in
set_option maxHeartbeats 400000 in
theorem str_any (B b : Nat) (l : List UInt8) (w : World) (h : Bld B b l w) :
    Calls Try.prog 96 #[.pointer (some ⟨b, 0, none⟩)] w fun e w' => e = .returned (.string ⟨l.toArray⟩) ∧ Below B w w' := by
  obtain ⟨p, hB, v, hbk, hown, hne⟩ : ∃ p, Lib.BuilderAt 144 5 B b p (Lib.byteCells l) w := by
    rcases h.1 with h | h
    · exact ⟨_, h⟩
    · exact ⟨_, h⟩
  by_cases h0 : l = []
  · subst h0
    obtain ⟨p2, hp⟩ := h.2 rfl
    have c1 : w.cell? ⟨b, 1, none⟩ = some (.slice none 0 0) := by rw [Lib.cell_of_heap hp]; rfl
    have hUS := fun W : World => Lib.run_unsafeString_none (P := Try.prog) W 196 3 9 none
    have hSD : ∀ W : World, (Builtin.unsafeSliceData_ #[142] 196 #[.slice none 0 0]).run Try.prog W = .ok (.pointer none) W := fun _ => rfl
    have hlt := (at_lt h.1).1
    have hBw : B ≤ w.heap.size := by omega
    clear hown hbk h
    go_enter Try.func96, Try.ntmps96
    go_wp2_with fail
    refine wp_region_near_tail 10 (by kernel_rfl) (by kernel_rfl) ?_
    intro hs
    simp only [List.take_succ_cons, List.take_zero, List.drop_succ_cons, List.drop_zero]
    repeat (go_big_quiet_step (fail))
    refine wpQuiet_nil ?_
    clear hs
    intro w2 hb2
    go_wp2_with fail
    go_ret
    exact ⟨rfl, hb2.mono hBw⟩
  · have hll := Lib.byteCells_length l
    have hl0 : l.length ≠ 0 := by simpa using h0
    have hlt := (at_lt h.1).1
    rw [hll] at hown
    obtain ⟨g, cap, cur, rfl, hbg, hg, hnc, hcm, hcs, htake⟩ : ∃ g cap cur, v = .slice (some ⟨g, 0, none⟩) l.length cap ∧ B ≤ g ∧ w.heap[g]? = some (.cells cur 5 (0, 0)) ∧ l.length ≤ cap ∧ cap ≤ maxLen ∧ cur.size = cap * 1 ∧ cur.toList.take (l.length * 1) = Lib.byteCells l := by
      rcases hown.2 with ⟨_, hz⟩ | ⟨g, cap, cur, hv, r⟩
      · exact absurd hz hl0
      · exact ⟨g, cap, cur, hv, r⟩
    have hgl : g < w.heap.size := by
      rcases Nat.lt_or_ge g w.heap.size with h' | h'
      · exact h'
      · simp [Array.getElem?_eq_none h'] at hg
    have c1 : w.cell? ⟨b, 1, none⟩ = some (.slice (some ⟨g, 0, none⟩) l.length cap) := by rw [Lib.cell_of_heap hbk]; rfl
    have hSD : ∀ W : World, (Builtin.unsafeSliceData_ #[142] 196 #[.slice (some ⟨g, 0, none⟩) l.length cap]).run Try.prog W = .ok (.pointer (some ⟨g, 0, none⟩)) W :=
      fun W => Lib.run_unsafeSliceData_row _ _ _ _ _ _ (by omega)
    have hUS : ∀ W : World, Below w.heap.size w W → (Builtin.unsafeString_ #[196, 3] 9 #[.pointer (some ⟨g, 0, none⟩), .int .i64 l.length]).run Try.prog W = .ok (.string ⟨l.toArray⟩) (W.freeze ⟨g, 0, none⟩ l.length) := by
      intro W hW
      have hgW : W.heap[g]? = some (.cells cur 5 (0, 0)) := by rw [hW.block g hgl]; exact hg
      refine Lib.run_unsafeString_row W 196 3 9 5 Try.underlying196 (by kernel_rfl) g cur.size (by simp [World.shape?, hgW]) l h0 (by omega) (by unfold maxLen at hcm; omega) ?_
      intro j x hx
      have e := hown.cells (g := g) rfl j (.int .u8 x.toNat) (by simp [Lib.byteCells, hx])
      rw [← e]
      have k := World.cell?_of_block (a := ⟨g, 0 + j, none⟩) (hW.block g hgl)
      rcases Nat.eq_zero_or_pos j with rfl | hj
      · simpa [Addr.add] using k
      · simpa [Addr.add, Nat.ne_of_gt hj] using k
    have hBw : B ≤ w.heap.size := by omega
    replace hUS := Lib.hid hUS
    clear hown hbk h htake
    go_enter Try.func96, Try.ntmps96
    go_wp2_with fail
    refine wp_region_near_tail 10 (by kernel_rfl) (by kernel_rfl) ?_
    intro hs
    simp only [List.take_succ_cons, List.take_zero, List.drop_succ_cons, List.drop_zero]
    repeat (go_big_quiet_step (fail))
    refine wpQuiet_nil ?_
    clear hs
    intro w2 hb2
    have hU2 := hUS.out w2 hb2
    go_wp2_with fail
    go_ret
    exact ⟨rfl, Lib.below_freeze (hb2.mono hBw) (p := ⟨g, 0, none⟩) hbg _⟩
end Go.Proofs.Ytljgmephajocaaa.Build
