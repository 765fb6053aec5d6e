
/- The walk of heard.move. -/
import Derived.Test.YtpajedpkdfacoaaHeardF
namespace Go.Proofs.Ytpajedpkdfacoaa.Heard
set_option linter.unusedSimpArgs false
set_option linter.unusedVariables false
open Go Go.RowKit Go.Proofs.Ytpajedpkdfacoaa Go.Proofs.Ytpajedpkdfacoaa.Circ
attribute [local irreducible] Calls

/-- So many moved on, of m, the first i. -/
def sh (m n : Nat) (c : List Bool) (i : Nat) : List Bool := (List.range m).map fun k => if n ≤ k ∧ k < n + i then c.getD (k - n) false else false
theorem sh_len (m n : Nat) (c : List Bool) (i : Nat) : (sh m n c i).length = m := by simp [sh]
theorem sh_at {m n k : Nat} {c : List Bool} {i : Nat} (h : k < m) : (sh m n c i)[k]? = some (if n ≤ k ∧ k < n + i then c.getD (k - n) false else false) := by
  simp [sh, h]
theorem sh_zero (m n : Nat) (c : List Bool) : bools (sh m n c 0) = List.replicate m (.bool false) := by
  apply List.ext_getElem?
  intro k
  by_cases h : k < m
  · unfold bools
    rw [List.getElem?_map, sh_at h, if_neg (by omega)]
    simp [h]
  · simp [bools, sh, h]
theorem sh_set {m n i : Nat} {c : List Bool} (h : i + n < m) (hi : i < c.length) : (bools (sh m n c i)).set (i + n) (.bool c[i]) = bools (sh m n c (i + 1)) := by
  apply List.ext_getElem?
  intro k
  rw [List.getElem?_set, bools_len, sh_len]
  by_cases hk : k < m
  · unfold bools
    rw [List.getElem?_map, List.getElem?_map, sh_at hk, sh_at hk]
    by_cases e : i + n = k
    · subst e
      rw [if_pos rfl, if_pos h, if_pos (by omega), show i + n - n = i by omega]
      simp [hi]
    · rw [if_neg e]
      have : (n ≤ k ∧ k < n + i) ↔ (n ≤ k ∧ k < n + (i + 1)) := by omega
      simp only [this]
  · rw [if_neg (by omega)]
    simp [bools, sh, hk]
theorem sh_over {m n i : Nat} {c : List Bool} (h : m ≤ i + n) : sh m n c i = sh m n c (i + 1) := by
  unfold sh
  apply List.map_congr_left
  intro k hk
  have := List.mem_range.1 hk
  have : (n ≤ k ∧ k < n + i) ↔ (n ≤ k ∧ k < n + (i + 1)) := by omega
  simp only [this]
def most (l n : Nat) : Nat := min (l + n) 128
def moveH (h : Hd) (s : Int) (n : Nat) : Hd := ⟨ofC s, sh (most h.came.length n) n h.came h.came.length, h.untold, h.ticks⟩
set_option maxRecDepth 100000 in
set_option maxHeartbeats 400000 in
theorem move_any (d : Nat) (h : Hd) (s : Int) (n : Nat) (w : World) (S : Nat → Prop) (H : (heardA d h).holds w S) (hl : h.came.length ≤ 128) (hn : farC s h.newest = n) :
    Calls Try.prog 122 #[.pointer (some ⟨d, 0, none⟩), .int .i64 s] w (Fin w S (.tuple #[]) [heardA d (moveH h s n)]) := by
  obtain ⟨i0, hi, hz, hz1, hz2⟩ := info_parts bool_info
  obtain ⟨g, H1⟩ := heard_open H
  have P := fun W => far_any s h.newest W
  obtain ⟨_, f1⟩ := farC_bd s h.newest
  rw [hn] at P f1
  obtain ⟨m, hm⟩ : ∃ m, m = most h.came.length n := ⟨_, rfl⟩
  have hmi : min ((h.came.length : Int) + n) 128 = (m : Int) := by rw [hm]; unfold most; omega
  have hm0 : m ≤ 128 := by rw [hm]; unfold most; omega
  obtain ⟨nw, c, ut, tk⟩ := h
  unfold moveH
  simp only at *
  rw [← hm]
  unfold hdV at H1
  simp only at H1
  obtain ⟨z, k, f⟩ := H1.box 0 rfl
  replace H1 := Lib.hid H1; replace P := Lib.hid P
  clear H hn hm
  go_enter Try.func122, Try.ntmps122
  go_wp2_with fail
  refine Calls.mono (P.out _) ?_
  rintro e w1 ⟨rfl, hb1⟩
  clear P
  have H2 := H1.out.thru hb1
  obtain ⟨z2, k2, f2⟩ := H2.box 0 rfl
  replace H2 := Lib.hid H2
  go_wp2_with (refine wpList_makeS rfl (.tmp 21) (.tmp 21) _ rfl 4 i0 (.bool false) 1 Try.underlying141 hi hz hz1 .i64 .i64 _ _ m rfl rfl (by first | exact hmi | go_num) (by first | exact hmi | go_num) (by rw [hz2]; omega) (by unfold maxLen; omega) _ (made_one _ _ rfl) H2.out ?_; intro w3 H3; rw [← sh_zero m n c] at H3; obtain ⟨z3, k3, f3⟩ := H3.box 1 rfl; replace H3 := Lib.hid H3)
  clear H1 H2 k k2
  go_loopg [6, 7, 28] c.length (fun gg _ _ i wr => ∃ j : Nat, j ≤ c.length ∧ gg = c.length - j ∧ i = .int .i64 j ∧ St w S wr [cellA w1.heap.size (bools (sh m n c j)), cellA d [.int .i64 nw, .slice (some ⟨g, 0, none⟩) c.length c.length, .int .i64 ut, .int .i64 tk], cellA g (bools c)])
  case atStart => exact ⟨0, by omega, by omega, rfl, H3.out⟩
  case round =>
    obtain ⟨j, hj, hg, rfl, hst⟩ := hrel
    clear k3 H3
    by_cases hlt : j < c.length
    · have e0 := (hst.box 2 rfl).cells j
      rw [bools_at hlt] at e0
      have zg := (hst.box 2 rfl).lt
      obtain ⟨zc, cc, fc⟩ := hst.box 0 rfl
      by_cases hjm : j + n < m
      · have q : decide ((j : Int) < m - n) = true := decide_eq_true (by omega)
        have H4 := hst.set 0 rfl (j + n) (.bool c[j]) (by rw [bools_len, sh_len]; exact hjm)
        rw [sh_set hjm hlt] at H4
        have e1 : ∃ y, wr.cell? ⟨w1.heap.size, j + n, none⟩ = some (.bool y) := by
          rw [cc (j + n)]
          unfold bools
          rw [List.getElem?_map, sh_at hjm]
          exact ⟨_, rfl⟩
        obtain ⟨y, e1⟩ := e1
        clear cc
        generalize c[j] = x at *
        replace hst := Lib.hid hst; replace H4 := Lib.hid H4
        go_wp2_with fail
        go_roundg (c.length - (j + 1))
        case measure => omega
        case rel => exact ⟨j + 1, by omega, rfl, by go_num, H4.out⟩
      · have q : decide ((j : Int) < m - n) = false := decide_eq_false (by omega)
        clear cc
        rw [sh_over (by omega)] at hst
        generalize c[j] = x at *
        replace hst := Lib.hid hst
        go_wp2_with fail
        go_roundg (c.length - (j + 1))
        case measure => omega
        case rel => exact ⟨j + 1, by omega, rfl, by go_num, hst.out⟩
    · obtain rfl : j = c.length := by omega
      have P := fun W => of_any s W
      replace hst := Lib.hid hst; replace P := Lib.hid P
      go_wp2_with fail
      refine Calls.mono (P.out _) ?_
      rintro e w5 ⟨rfl, hb5⟩
      have H5 := hst.out.thru hb5
      obtain ⟨z5, k5, f5⟩ := H5.box 1 rfl
      have H6 := (H5.set 1 rfl 0 (.int .i64 (ofC s)) (by simp)).set 0 rfl 1 (.slice (some ⟨w1.heap.size, 0, none⟩) m m) (by simp)
      have H7 := H6.drop 2 rfl
      replace H7 := Lib.hid H7
      clear H5 H6 hst P
      go_wp2_with fail
      go_end0
      exact ⟨rfl, heard_shut (h := ⟨ofC s, sh m n c c.length, ut, tk⟩) (r := []) (by unfold hdV; rw [sh_len]; exact H7.out)⟩
end Go.Proofs.Ytpajedpkdfacoaa.Heard
