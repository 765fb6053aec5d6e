/- The walks of strings.Builder, once more: with what they leave as it was. -/
import Derived.Test.YtljgmephajocaaaBuildStr
namespace Go.Proofs.Ytljgmephajocaaa.Build
set_option linter.unusedSimpArgs false
set_option linter.unusedVariables false
open Go Go.RowKit Go.Proofs.Ytljgmephajocaaa
attribute [local irreducible] Calls

/-- Blocks of other types are as they were. -/
def Keep (w w' : World) : Prop := ∀ (c : Nat) (cs : Array Value) (T : TypeId), T ≠ 5 → T ≠ 144 → w.heap[c]? = some (.cells cs T (0, 0)) → w'.heap[c]? = some (.cells cs T (0, 0))
theorem Keep.refl (w : World) : Keep w w := fun _ _ _ _ _ h => h
theorem Keep.trans {w w' w'' : World} (h : Keep w w') (k : Keep w' w'') : Keep w w'' := fun c cs T h1 h2 h3 => k c cs T h1 h2 (h c cs T h1 h2 h3)
theorem lt_of_heap {w : World} {c : Nat} {o : Obj} (h : w.heap[c]? = some o) : c < w.heap.size := by
  rcases Nat.lt_or_ge c w.heap.size with h' | h'
  · exact h'
  · simp [Array.getElem?_eq_none h'] at h
theorem Keep.below {w w' : World} (hb : Below w.heap.size w w') : Keep w w' := fun c cs T _ _ h => by rw [hb.block c (lt_of_heap h)]; exact h
theorem Keep.grown {w w' : World} {r : Option Nat} (hg : w.grownBy w' r) (hr : ∀ c cs T, T ≠ 5 → T ≠ 144 → w.heap[c]? = some (.cells cs T (0, 0)) → r ≠ some c) : Keep w w' :=
  fun c cs T h1 h2 h => by rw [hg.block c (lt_of_heap h) (fun e => hr c cs T h1 h2 h e.symm)]; exact h
theorem Keep.set {w : World} {b o : Nat} {cs : Array Value} {v : Value} (hb : w.heap[b]? = some (.cells cs 144 (0, 0))) : Keep w (w.setCell ⟨b, o, none⟩ v) := by
  have hg : w.grownBy (w.setCell ⟨b, o, none⟩ v) (some b) := (grown_set (grown_refl w (some b)) (.inl rfl))
  refine Keep.grown hg fun c cs' T h1 h2 h e => ?_
  injection e with e
  subst e
  rw [hb] at h
  injection h with h
  injection h with _ h _
  exact h2 h.symm
theorem Keep.own {w : World} {B n : Nat} {v : Value} {xs : List Value} (hown : w.ownsRow B 5 1 v n xs) : ∀ c cs T, T ≠ 5 → T ≠ 144 → w.heap[c]? = some (.cells cs T (0, 0)) → v.ownBlock ≠ some c := by
  intro c cs T h1 h2 h e
  rcases hown.2 with ⟨rfl, _⟩ | ⟨g, cap, cur, rfl, _, hg, _⟩
  · cases e
  · injection e with e
    simp only at e
    subst e
    rw [hg] at h
    injection h with h
    injection h with _ h _
    exact h1 h.symm
theorem check_keep (B b : Nat) (bs : List Value) (w : World) (h : Lib.IsBuilder 144 5 B b bs w) :
    Calls Try.prog 136 #[.pointer (some ⟨b, 0, none⟩)] w fun e w' => e = .returned (.tuple #[]) ∧ (Lib.BuilderAt 144 5 B b (.pointer (some ⟨b, 0, none⟩)) bs w' ∧ Below B w w' ∧ Keep w w') := by
  rcases h with h | h
  · refine (check_fresh b w h.cell0 h.shape h.frozen0).mono ?_
    rintro e w' ⟨rfl, rfl⟩
    have h2 := h
    obtain ⟨_, v, hk, _, _⟩ := h2
    exact ⟨rfl, h.used _, (Below.refl B w).setCell (p := ⟨b, 0, none⟩) h.1 _, Keep.set hk⟩
  · refine (check_used b w h.cell0).mono ?_
    rintro e w' ⟨rfl, rfl⟩
    exact ⟨rfl, h, Below.refl B _, Keep.refl _⟩
set_option maxRecDepth 100000 in
set_option maxHeartbeats 400000 in
theorem byte_keep (B b : Nat) (l : List UInt8) (x : UInt8) (w : World) (h : Bld B b l w) (hlen : l.length + 1 ≤ 140737488355328) (hBw : B ≤ w.heap.size) :
    Calls Try.prog 92 #[.pointer (some ⟨b, 0, none⟩), .int .u8 x.toNat] w fun e w' => e = .returned .nilIface ∧ Bld B b (l ++ [x]) w' ∧ Below B w w' ∧ Keep w w' := by
  obtain ⟨i0, hi, hz0, hz1, hz2⟩ := info_parts byte_info
  have hll : (Lib.byteCells l).length = l.length := Lib.byteCells_length l
  have C := check_keep B b _ w h.1
  clear h
  go_enter Try.func92, Try.ntmps92
  go_wp2_with fail
  refine Calls.mono C ?_
  rintro e w1 ⟨rfl, h1, hb1, hk1⟩
  obtain ⟨hB, v, hbk, hown, hne⟩ := h1
  have c0 : w1.cell? ⟨b, 0, none⟩ = some (.pointer (some ⟨b, 0, none⟩)) := by rw [Lib.cell_of_heap hbk]; rfl
  have c1 : w1.cell? ⟨b, 1, none⟩ = some v := by rw [Lib.cell_of_heap hbk]; rfl
  clear C
  have z1 := hb1.size
  go_wp2_with (at_builtin; refine wpList_append_own _ rfl _ _ 142 rfl B 5 i0 (.int .u8 0) 1 1 Try.underlying142 hi hz0 hz1 hz2 rfl (by decide) _ _ _ rfl (hown.alloc _) ⟨w1.heap.size, 0, none⟩ 1 1 [.int .u8 x.toNat] rfl rfl ?c1 ?c2 ?c3 ?c4 ?c5 ?_)
  case c1 =>
    intro j u hj
    match j, hj with
    | 0, hj => simp at hj; subst hj; simp [Addr.add]
  case c2 => intro u hu; simp at hu; subst hu; rfl
  case c3 => unfold maxLen; omega
  case c4 => omega
  case c5 => simp; omega
  intro v' w2 hown' hgrow _
  have hlt : b < w1.heap.size := lt_of_heap hbk
  have hb2 : w2.heap[b]? = some (.cells #[.pointer (some ⟨b, 0, none⟩), v] 144 (0, 0)) := by
    rw [hgrow.block b (by simp; omega) (fun e => hne e.symm), Lib.alloc_old w1 _ b hlt]
    exact hbk
  have d0 : w2.cell? ⟨b, 0, none⟩ = some (.pointer (some ⟨b, 0, none⟩)) := by rw [Lib.cell_of_heap hb2]; rfl
  have d1 : w2.cell? ⟨b, 1, none⟩ = some v := by rw [Lib.cell_of_heap hb2]; rfl
  have f1 : w2.frozen? ⟨b, 1, none⟩ = false := Lib.frozen_of_heap hb2 1
  rw [byteCells_snoc] at hown'
  obtain ⟨g, cap, rfl⟩ : ∃ g cap, v' = .slice (some ⟨g, 0, none⟩) (l.length + 1) cap := by
    rcases hown'.2 with ⟨_, h0⟩ | ⟨g, cap, cur, hv, _⟩
    · omega
    · exact ⟨g, cap, hv⟩
  have H1 := Lib.BuilderAt.put (T := 144) (e := 5) hB hb2 (bs' := Lib.byteCells (l ++ [x])) (by rw [Lib.byteCells_length, List.length_append]; exact hown') (by decide)
  have H2 := ((hb1.alloc (by omega) (.cells #[.int .u8 x.toNat] 5)).grown hgrow (by simp; omega) (fun k hk => (hown.lt k hk).1)).setCell (p := ⟨b, 1, none⟩) hB (.slice (some ⟨g, 0, none⟩) (l.length + 1) cap)
  have H3 := ((hk1.trans (Keep.below ((Below.refl _ w1).alloc (Nat.le_refl _) (.cells #[.int .u8 x.toNat] 5)))).trans (Keep.grown hgrow (Keep.own (hown.alloc _)))).trans (Keep.set (o := 1) (v := .slice (some ⟨g, 0, none⟩) (l.length + 1) cap) hb2)
  clear hown hown' hgrow hk1
  replace H1 := Lib.hid H1; replace H2 := Lib.hid H2; replace H3 := Lib.hid H3
  go_wp2_with fail
  go_ret
  exact ⟨rfl, ⟨.inr H1.out, fun e => by simp at e⟩, H2.out, H3.out⟩
set_option maxRecDepth 100000 in
set_option maxHeartbeats 400000 in
theorem puts_keep (B b : Nat) (l : List UInt8) (s : ByteArray) (w : World) (h : Bld B b l w) (hl : l ≠ []) (hlen : l.length + s.size ≤ 140737488355328) (hBw : B ≤ w.heap.size) :
    Calls Try.prog 94 #[.pointer (some ⟨b, 0, none⟩), .string s] w fun e w' => e = .returned (.tuple #[.int .i64 s.size, .nilIface]) ∧ Bld B b (l ++ s.data.toList) w' ∧ Below B w w' := puts_any B b l s w h hl hlen hBw
end Go.Proofs.Ytljgmephajocaaa.Build
