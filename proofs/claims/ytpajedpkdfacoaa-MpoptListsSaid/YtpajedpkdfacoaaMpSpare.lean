/- The walk of mpopt.spare. -/
import Derived.Test.YtpajedpkdfacoaaMpPartB
namespace Go.Proofs.Ytpajedpkdfacoaa.Mp
set_option linter.unusedSimpArgs false
set_option linter.unusedVariables false
open Go Go.RowKit Go.Shelf Go.Proofs.Ytpajedpkdfacoaa Go.Proofs.Ytpajedpkdfacoaa.Octets
attribute [local irreducible] Calls

/-- What holds of all fields. -/
def okFd (l : List Fd) : Fd → Prop
  | .num i s => (1 ≤ i ∧ i ≤ 5) ∧ (1 ≤ s ∧ s ≤ 6)
  | .byt z => z.length ≤ 1000 ∧ (∀ q, szA q l = cellA q (i64s z)) ∧ (z = [32] ∨ z = [8, 16])
theorem fields_ok {k : Int} {l : List Fd} (h : fieldsO k = some l) : l.length ≤ 3 ∧ ∀ f ∈ l, okFd l f := by
  have hk := kinds (k := k) (by rw [h]; simp)
  rcases hk with rfl | rfl | rfl | rfl | rfl | rfl | rfl | rfl | rfl | rfl | rfl <;>
  · simp +decide only [fieldsO, if_true, if_false, reduceIte, Option.some.injEq] at h
    subst h
    refine ⟨by decide, ?_⟩
    intro f hf
    simp only [List.mem_cons, List.not_mem_nil, or_false] at hf
    rcases hf with rfl | rfl | rfl <;> simp [okFd, szA]
theorem encM_set (m : Mu) (i : Nat) (hi : 1 ≤ i ∧ i ≤ 5) (v : Int) : (encM m).set i (.int .i64 v) = encM (setM m i v) := by
  obtain ⟨h1, h2⟩ := hi
  have h : i = 1 ∨ i = 2 ∨ i = 3 ∨ i = 4 ∨ i = 5 := by omega
  rcases h with rfl | rfl | rfl | rfl | rfl <;> rfl
theorem encM_len (m : Mu) : (encM m).length = 7 := rfl
@[go_sem] theorem run_store_fn {w : World} {a : Addr} {md : Mode} (g : Fn) (x y : Array Value) : (store a (.func g x y) md).run Try.prog w = stored Try.prog w a (.func g x y) md := run_store Try.prog w a _ md rfl
@[go_sem] theorem as_num (v : Value) (w : World) : (Instr.typeAssert (.iface 124 v) 64 124 true).run Try.prog w = .ok (.tuple #[v, .bool true]) w := by kernel_rfl
@[go_sem] theorem as_byt (v : Value) (w : World) : (Instr.typeAssert (.iface 126 v) 64 126 true).run Try.prog w = .ok (.tuple #[v, .bool true]) w := by kernel_rfl
@[go_sem] theorem as_not (v : Value) (w : World) : (Instr.typeAssert (.iface 126 v) 64 124 true).run Try.prog w = .ok (.tuple #[.agg #[.nilFunc, .int .i64 0], .bool false]) w := by kernel_rfl
@[go_sem] theorem m_ncheck (n : Nat) (v : Value) (w : World) : (method (n + 1) 124 v "anabranch/mpopt.check").run Try.prog w = .ok (165, v) w := by kernel_rfl
@[go_sem] theorem m_nput (n : Nat) (v : Value) (w : World) : (method (n + 1) 124 v "anabranch/mpopt.put").run Try.prog w = .ok (166, v) w := by kernel_rfl
@[go_sem] theorem m_nread (n : Nat) (v : Value) (w : World) : (method (n + 1) 124 v "anabranch/mpopt.read").run Try.prog w = .ok (167, v) w := by kernel_rfl
@[go_sem] theorem m_bcheck (n : Nat) (v : Value) (w : World) : (method (n + 1) 126 v "anabranch/mpopt.check").run Try.prog w = .ok (168, v) w := by kernel_rfl
@[go_sem] theorem m_bput (n : Nat) (v : Value) (w : World) : (method (n + 1) 126 v "anabranch/mpopt.put").run Try.prog w = .ok (169, v) w := by kernel_rfl
@[go_sem] theorem m_bread (n : Nat) (v : Value) (w : World) : (method (n + 1) 126 v "anabranch/mpopt.read").run Try.prog w = .ok (170, v) w := by kernel_rfl
set_option maxRecDepth 100000 in
theorem spare_any (m : Mu) (l : List Fd) (b q : Nat) (hl : l.length ≤ 3) (hok : ∀ f ∈ l, okFd l f) (w : World) (hB : Box w b (l.map (encFd q))) :
    Calls Try.prog 37 #[.agg (encM m).toArray, .slice (some ⟨b, 0, none⟩) l.length l.length] w (Ret w (.agg (encM (spareM m l)).toArray)) := by
  have HB := Lib.hid hB
  obtain ⟨kind, addr, prio, num, token, nonce, dat⟩ := m
  have H := ((St.zero w).alloc ((encM ⟨kind, addr, prio, num, token, nonce, dat⟩).set 0 (.int .i64 0)) 23).alloc (encM zeroM) 23
  simp only [World.size_alloc] at H
  have H1 := H.arr [1, 0] rfl
  have hs : spareM ⟨kind, addr, prio, num, token, nonce, dat⟩ l = l.foldl blankF ⟨0, addr, prio, num, token, nonce, dat⟩ := rfl
  rw [hs]
  clear hB H hs
  replace hok := Lib.hid hok; replace H1 := Lib.hid H1
  go_enter Try.func37, Try.ntmps37
  go_wp2_with fail
  go_loopg [6, 7, 8, 12] l.length (fun g _ _ _ v12 wr => ∃ j : Nat, j ≤ l.length ∧ Hid (g = l.length - j) ∧ v12 = .int .i64 j ∧ Hid (St w none0 wr [cellA w.heap.size (encM ((l.take j).foldl blankF ⟨0, addr, prio, num, token, nonce, dat⟩)), cellA (w.heap.size + 1) (encM zeroM)]))
  case atStart => exact ⟨0, by omega, Lib.hid rfl, rfl, H1⟩
  case round =>
    obtain ⟨j, hj, hg, rfl, hst⟩ := hrel
    clear H1
    by_cases hlt : j < l.length
    · obtain ⟨zb, cb, fb⟩ := HB.out.below (St.below hst.out)
      have e0 : wr.cell? ⟨b, j, none⟩ = some (encFd q l[j]) := (cb j).trans (by simp [hlt])
      have hf := hok.out l[j] (List.getElem_mem hlt)
      have htk : l.take (j + 1) = l.take j ++ [l[j]] := List.take_succ_eq_append_getElem hlt
      have hfold : (l.take (j + 1)).foldl blankF ⟨0, addr, prio, num, token, nonce, dat⟩ = blankF ((l.take j).foldl blankF ⟨0, addr, prio, num, token, nonce, dat⟩) l[j] := by rw [htk, List.foldl_append]; rfl
      have hlt' : (j : Int) < l.length := by omega
      generalize l[j] = x at *
      generalize (l.take j).foldl blankF ⟨0, addr, prio, num, token, nonce, dat⟩ = mm at *
      clear cb htk
      replace hfold := Lib.hid hfold
      cases x with
      | num i s =>
        obtain ⟨hi, hs⟩ := hf
        unfold encFd at e0
        have hG := fn_enters i hi
        have H2 := hst.out.alloc [.func (.func (fnM i)) #[] #[], .int .i64 s] 124
        obtain ⟨z2, c2, f2⟩ := H2.box 1 rfl
        have P := at_any i hi w.heap.size _ z2
        clear c2 f2 hst
        replace hi := Lib.hid hi; replace hs := Lib.hid hs; replace P := Lib.hid P; replace H2 := Lib.hid H2
        go_wp2_with fail
        refine Calls.mono P.out ?_
        rintro e w3 ⟨rfl, hb3⟩
        have H3 := H2.out.thru hb3
        obtain ⟨z3, c3, f3⟩ := H3.box 1 rfl
        have ci := (c3 i).trans (encM_at mm i hi.out)
        have H4 := H3.set 1 rfl i (.int .i64 0) (by rw [encM_len]; have := hi.out; omega)
        rw [encM_set mm i hi.out] at H4
        clear c3 P H2 H3
        replace H4 := Lib.hid H4
        go_wp2_with fail
        go_roundg (l.length - (j + 1))
        case measure => have := hg.out; omega
        case rel => exact ⟨j + 1, by omega, Lib.hid rfl, by go_num, by rw [hfold.out]; exact Lib.hid ((H4.out.arr [0, 2, 1] rfl).drops 2)⟩
      | byt zz =>
        unfold encFd at e0
        have H2 := hst.out.alloc [.slice (some ⟨q, 0, none⟩) zz.length zz.length] 126
        obtain ⟨z3, c3, f3⟩ := H2.box 1 rfl
        have H4 := H2.set 1 rfl 6 (.string ⟨#[]⟩) (by rw [encM_len]; omega)
        have ci := c3 6
        clear hst c3 H2
        replace H4 := Lib.hid H4; replace hf := Lib.hid hf
        go_wp2_with fail
        go_roundg (l.length - (j + 1))
        case measure => have := hg.out; omega
        case rel => exact ⟨j + 1, by omega, Lib.hid rfl, by go_num, by rw [hfold.out]; exact Lib.hid ((H4.out.arr [0, 2, 1] rfl).drops 2)⟩
    · have hj2 : l.take j = l := List.take_of_length_le (by omega)
      rw [hj2] at hst
      have hlt' : ¬ (j : Int) < l.length := by omega
      generalize l.foldl blankF ⟨0, addr, prio, num, token, nonce, dat⟩ = mm at *
      obtain ⟨k1, k2, k3, k4, k5, k6, k7⟩ := mm
      obtain ⟨z3, c3, f3⟩ := hst.out.box 0 rfl
      obtain ⟨z4, c4, f4⟩ := hst.out.box 1 rfl
      unfold encM at c3 c4
      clear hj2
      have H0 : St w none0 wr (cellA (w.heap.size + 1) [.int .i64 0, .int .i64 0, .int .i64 0, .int .i64 0, .int .i64 0, .int .i64 0, .string ⟨#[]⟩] :: _) := hst.out.front 1 rfl
      have H5 := ((((((((((((((H0).set 0 rfl 0 (.int .i64 k1) (by simp))).set 0 rfl 1 (.int .i64 k2) (by simp))).set 0 rfl 2 (.int .i64 k3) (by simp))).set 0 rfl 3 (.int .i64 k4) (by simp))).set 0 rfl 4 (.int .i64 k5) (by simp))).set 0 rfl 5 (.int .i64 k6) (by simp))).set 0 rfl 6 (.string k7) (by simp))
      clear H0
      replace H5 := Lib.hid H5
      go_wp2_with fail
      exact bodyPost_ret (v := .agg #[.int .i64 k1, .int .i64 k2, .int .i64 k3, .int .i64 k4, .int .i64 k5, .int .i64 k6, .string k7]) (by simp [results, Try.results37, go_sem, z4, c4, f4]) rfl (H5.out.ret rfl)
end Go.Proofs.Ytpajedpkdfacoaa.Mp
