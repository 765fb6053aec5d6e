/- What two lines come to, between which what is said is heard in whatever order: in plain Lean. -/
import Derived.Test.YtljgmephajocaaaControlDoes
namespace Go.Proofs.Ytljgmephajocaaa.Ctl
set_option linter.unusedSimpArgs false
set_option linter.unusedVariables false
open Go Go.RowKit Go.Proofs.Ytljgmephajocaaa Go.Proofs.Ytljgmephajocaaa.DockCtl

/-- The line that only hears. -/
def bL (h : Nat) : Ln := ⟨[], 1, -1, (h : Int)⟩
structure Tr where
  a : Ln
  h : Nat
  put : List El
  said : List El
  got : List El
  cfm : List Int
structure OK (T : Tr) (J : Nat) : Prop where
  num : ∀ i (hi : i < T.put.length), (T.put[i]).1 = (i : Int) + 1
  nxt : T.a.next = (T.put.length : Int) + 1
  wait : ∃ d, d ≤ T.h ∧ T.a.l = T.put.drop d
  hle : T.h ≤ T.put.length
  got : T.got = T.put.take T.h
  said : ∀ x ∈ T.said, x ∈ T.put
  cfm : ∀ m ∈ T.cfm, m ≤ (T.h : Int)
  gd : good T.a J
  lp : T.put.length ≤ J
  ls : T.said.length ≤ J
  lc : T.cfm.length ≤ J
def t0 : Tr := ⟨s0, 0, [], [], [], []⟩
theorem good_mono {s : Ln} {i j : Nat} (h : good s i) (hij : i ≤ j) : good s j := by unfold good at *; omega
theorem OK.mono {T : Tr} {i j : Nat} (h : OK T i) (hij : i ≤ j) : OK T j := { h with gd := good_mono h.gd hij, lp := Nat.le_trans h.lp hij, ls := Nat.le_trans h.ls hij, lc := Nat.le_trans h.lc hij }
theorem ok_0 : OK t0 0 where
  num i hi := by simp [t0] at hi
  nxt := rfl
  wait := ⟨0, Nat.le_refl _, rfl⟩
  hle := Nat.le_refl _
  got := rfl
  said x hx := by cases hx
  cfm m hm := by cases hm
  gd := good_0 0
  lp := Nat.le_refl _
  ls := Nat.le_refl _
  lc := Nat.le_refl _

section
variable {T : Tr} {J : Nat}
def putT (T : Tr) (c : El) : Tr := { T with a := putS T.a c, put := if putE T.a c = 0 then T.put ++ [(putN T.a c, c.2)] else T.put }
theorem ok_put (c : El) (h : OK T J) : OK (putT T c) (J + 1) := by
  have hg := good_put c h.gd
  unfold putT
  by_cases he : putE T.a c = 0
  · have e1 : putS T.a c = { T.a with l := T.a.l ++ [(T.a.next, c.2)], next := T.a.next + 1 } := by unfold putS; rw [if_pos he]
    have e2 : putN T.a c = T.a.next := by unfold putN; rw [if_pos he]
    rw [e1] at hg
    simp only [if_pos he, e1, e2]
    obtain ⟨d, hd, hl⟩ := h.wait
    have hle := h.hle
    refine ⟨fun i hi => ?_, ?_, ⟨d, hd, ?_⟩, ?_, ?_, fun x hx => ?_, h.cfm, hg, ?_, ?_, ?_⟩
    · simp only [List.length_append, List.length_cons, List.length_nil] at hi
      by_cases hi2 : i < T.put.length
      · simp only [List.getElem_append_left hi2]
        exact h.num i hi2
      · obtain rfl : i = T.put.length := by omega
        simp [h.nxt]
    · simp [h.nxt]
    · rw [hl, List.drop_append_of_le_length (by omega)]
    · simp; omega
    · rw [List.take_append_of_le_length hle]; exact h.got
    · simp only [List.mem_append]; exact .inl (h.said x hx)
    · have := h.lp; simp; omega
    · have := h.ls; simp only; omega
    · have := h.lc; simp only; omega
  · have e1 : putS T.a c = T.a := by unfold putS; rw [if_neg he]
    simp only [if_neg he, e1]
    exact h.mono (by omega)
theorem head_mem (h : OK T J) (hl : 0 < T.a.l.length) : ∃ d, d < T.put.length ∧ d ≤ T.h ∧ T.a.l = T.put.drop d ∧ headV T.a.l ∈ T.put ∧ (headV T.a.l).1 = (d : Int) + 1 := by
  obtain ⟨d, hd, e⟩ := h.wait
  have hdl : d < T.put.length := by rw [e, List.length_drop] at hl; omega
  have e2 : headV T.a.l = T.put[d] := by rw [e, List.drop_eq_getElem_cons hdl]; rfl
  exact ⟨d, hdl, hd, e, by rw [e2]; exact List.getElem_mem _, by rw [e2]; exact h.num d hdl⟩
theorem due_pos {s : Ln} (h : dueOk s = true) : 0 < s.l.length := by
  unfold dueOk at h
  simp only [Bool.and_eq_true, decide_eq_true_eq] at h
  exact h.1
theorem ok_due0 (h : OK T J) : OK { T with a := dueS T.a } (J + 1) := by
  have hg := good_due h.gd
  have e : (dueS T.a).l = T.a.l ∧ (dueS T.a).next = T.a.next := by unfold dueS; split <;> exact ⟨rfl, rfl⟩
  exact ⟨h.num, by simp only [e.2]; exact h.nxt, by simp only [e.1]; exact h.wait, h.hle, h.got, h.said, h.cfm, hg, Nat.le_succ_of_le h.lp, Nat.le_succ_of_le h.ls, Nat.le_succ_of_le h.lc⟩
def dueT (T : Tr) : Tr := { T with a := dueS T.a, said := if dueOk T.a then T.said ++ [dueC T.a] else T.said }
theorem ok_due (h : OK T J) : OK (dueT T) (J + 1) := by
  have h1 := ok_due0 h
  unfold dueT
  by_cases he : dueOk T.a = true
  · obtain ⟨_, _, _, _, hm, _⟩ := head_mem h (due_pos he)
    have e2 : dueC T.a = headV T.a.l := by unfold dueC; rw [if_pos he]
    simp only [if_pos he, e2]
    refine { h1 with said := fun x hx => ?_, ls := ?_ }
    · simp only [List.mem_append, List.mem_singleton] at hx
      rcases hx with hx | rfl
      · exact h.said x hx
      · exact hm
    · have := h.ls; simp; omega
  · simp only [if_neg he]
    exact h1
def hT (h : Nat) (x : El) : Nat := if fresh (bL h) x.1 then h + 1 else h
theorem take_b (h : Nat) (x : El) : takeS (bL h) x.1 = bL (hT h x) := by
  unfold takeS hT
  by_cases he : fresh (bL h) x.1 = true
  · simp only [if_pos he]
    unfold fresh at he
    simp only [Bool.and_eq_true, decide_eq_true_eq, bL] at he
    have h2 : x.1 - 1 = (h : Int) := of_decide_eq_true he.2
    simp only [bL, Ln.mk.injEq, true_and]
    push_cast
    omega
  · simp only [if_neg he]
def takeT (T : Tr) (x : El) : Tr := { T with h := hT T.h x, got := if fresh (bL T.h) x.1 then T.got ++ [x] else T.got }
theorem ok_take (x : El) (hx : x ∈ T.put) (h : OK T J) : OK (takeT T x) J ∧ (conf (bL T.h) x.1 = true → x.1 ≤ ((takeT T x).h : Int)) := by
  obtain ⟨i, hi, rfl⟩ := List.getElem_of_mem hx
  have hn := h.num i hi
  unfold takeT hT
  by_cases he : fresh (bL T.h) T.put[i].1 = true
  · have hi2 : i = T.h := by
      unfold fresh at he
      simp only [Bool.and_eq_true, decide_eq_true_eq, bL, hn] at he
      omega
    simp only [if_pos he]
    subst hi2
    refine ⟨{ h with wait := ?_, hle := hi, got := ?_, cfm := fun m hm => ?_ }, fun _ => by rw [hn]; push_cast; omega⟩
    · obtain ⟨d, hd, e⟩ := h.wait
      exact ⟨d, by simp only; omega, e⟩
    · simp only [h.got]
      rw [List.take_succ_eq_append_getElem hi]
    · have := h.cfm m hm
      simp only
      push_cast
      omega
  · simp only [if_neg he]
    refine ⟨h, fun hc => ?_⟩
    unfold conf at hc
    unfold fresh at he
    simp only [Bool.and_eq_true, decide_eq_true_eq, bL, hn, not_and] at hc he
    have := he hc.1
    rw [hn]
    omega
theorem ok_cfm (m : Int) (hm : m ≤ (T.h : Int)) (h : OK T J) : OK { T with cfm := T.cfm ++ [m] } (J + 1) :=
  { h.mono (Nat.le_succ J) with
    cfm := fun k hk => by
      simp only [List.mem_append, List.mem_singleton] at hk
      rcases hk with hk | rfl
      · exact h.cfm k hk
      · exact hm
    lc := by have := h.lc; simp; omega }
theorem ok_hear (m : Int) (hm : m ≤ (T.h : Int)) (h : OK T J) : OK { T with a := hearS T.a m } (J + 1) := by
  have hg := good_hear m h.gd
  by_cases he : hearOk T.a m = true
  · have e1 : hearS T.a m = { T.a with l := T.a.l.tail, since := -1 } := by unfold hearS; rw [if_pos he]
    rw [e1] at hg
    simp only [e1]
    unfold hearOk at he
    simp only [Bool.and_eq_true, decide_eq_true_eq] at he
    obtain ⟨d, hd1, hd2, e, _, hn⟩ := head_mem h he.1
    refine { h.mono (Nat.le_succ J) with wait := ⟨d + 1, by simp only; omega, ?_⟩, nxt := h.nxt, gd := hg }
    simp only [e, List.tail_drop]
  · have e1 : hearS T.a m = T.a := by unfold hearS; rw [if_neg he]
    simp only [e1]
    exact h.mono (Nat.le_succ J)
theorem tick_l (s : Ln) : (tickS s).l = s.l ∧ (tickS s).next = s.next := by unfold tickS; split <;> exact ⟨rfl, rfl⟩
theorem ok_tick (h : OK T J) : OK { T with a := tickS T.a } (J + 1) :=
  { h.mono (Nat.le_succ J) with wait := by simp only [tick_l]; exact h.wait, nxt := by simp only [tick_l]; exact h.nxt, gd := good_tick h.gd }
def t4 (s : Ln) : Ln := tickS (tickS (tickS (tickS s)))
theorem since_tick (s : Ln) : (tickS s).since = if 0 ≤ s.since then s.since + 1 else s.since := by unfold tickS; split <;> rfl
theorem due_t4 (s : Ln) : dueOk (t4 s) = decide (0 < s.l.length) := by
  have hs : ¬ (0 ≤ (t4 s).since ∧ (t4 s).since < 4) := by
    unfold t4
    simp only [since_tick]
    split <;> omega
  have hl : (t4 s).l = s.l := by simp [t4, tick_l]
  unfold dueOk
  rw [hl]
  rcases Classical.not_and_iff_not_or_not.1 hs with h | h
  · rw [decide_eq_false h]; simp
  · rw [decide_eq_false h]; simp
/-- A round behind all steps: what waits first is said, heard, and confirmed. -/
def lastT (T : Tr) : Tr :=
  if 0 < T.a.l.length then { takeT { T with a := dueS (t4 T.a) } (headV T.a.l) with a := hearS (dueS (t4 T.a)) (headV T.a.l).1 } else { T with a := t4 T.a }
theorem t4_l (s : Ln) : (t4 s).l = s.l := by simp [t4, tick_l]
theorem due_l (s : Ln) : (dueS s).l = s.l := by unfold dueS; split <;> rfl
theorem ok_last (h : OK T J) : OK (lastT T) (J + 6) ∧ (lastT T).a.l.length = T.a.l.length - 1 := by
  have h4 : OK { T with a := t4 T.a } (J + 4) := ok_tick (T := { T with a := tickS (tickS (tickS T.a)) }) (ok_tick (T := { T with a := tickS (tickS T.a) }) (ok_tick (T := { T with a := tickS T.a }) (ok_tick h)))
  unfold lastT
  split
  · rename_i hl
    have h5 := ok_due0 h4
    simp only at h5
    have hl5 : (dueS (t4 T.a)).l = T.a.l := by rw [due_l, t4_l]
    obtain ⟨d, hd1, hd2, e, hm, hn⟩ := head_mem h hl
    obtain ⟨h6, hc⟩ := ok_take (T := { T with a := dueS (t4 T.a) }) (headV T.a.l) hm h5
    have hcf : conf (bL T.h) (headV T.a.l).1 = true := by
      unfold conf
      simp only [Bool.and_eq_true, decide_eq_true_eq, bL, hn]
      omega
    have h7 := ok_hear (headV T.a.l).1 (hc hcf) h6
    refine ⟨h7.mono (by omega), ?_⟩
    have hok : hearOk (dueS (t4 T.a)) (headV T.a.l).1 = true := by
      unfold hearOk
      rw [hl5, decide_eq_true hl]
      simp
    simp only [hearS, if_pos hok, hl5, List.length_tail]
  · rename_i hl
    refine ⟨h4.mono (by omega), ?_⟩
    simp only [t4_l]
    omega
/-- What is asked behind each step. -/
theorem ok_got (h : OK T J) : T.got.length = T.h ∧ T.got.length ≤ T.put.length ∧ ∀ (i : Nat) (h1 : i < T.got.length) (h2 : i < T.put.length), T.got[i] = T.put[i] := by
  have h1 := h.hle
  have hl : T.got.length = T.h := by rw [h.got, List.length_take]; omega
  refine ⟨hl, by omega, fun i h2 h3 => ?_⟩
  have : T.got[i]? = T.put[i]? := by rw [h.got, List.getElem?_take, if_pos (by omega)]
  rw [List.getElem?_eq_getElem h2, List.getElem?_eq_getElem h3] at this
  exact Option.some.inj this
theorem ok_end (h : OK T J) (hl : T.a.l.length = 0) : T.got.length = T.put.length := by
  obtain ⟨d, hd, e⟩ := h.wait
  have := (ok_got h).1
  have := h.hle
  rw [e, List.length_drop] at hl
  omega
end
end Go.Proofs.Ytljgmephajocaaa.Ctl
