/- The plain laws of sift: what is released, what goes on waiting. -/
import Derived.Test.YtiaefmmcakagpaaSiftLate
namespace Go.Proofs.Ytiaefmmcakagpaa.Sift
set_option linter.unusedSimpArgs false
set_option linter.unusedVariables false
open Go.Proofs.Ytiaefmmcakagpaa.DockWait (El placed headV)

/-- Rising by numbers. -/
def Up (l : List El) : Prop := l.Pairwise fun a b => a.1 < b.1
/-- As a sift keeps things: the cursor and what waits. -/
structure Ok (c : Int) (l : List El) : Prop where
  c0 : 0 ≤ c
  c1 : c ≤ top
  mem : ∀ x ∈ l, c < x.1 ∧ x.1 ≤ top
  up : Up l
theorem Ok.pos {c : Int} {l : List El} (h : Ok c l) : ∀ x ∈ l, 0 < x.1 ∧ x.1 ≤ top := fun x hx => ⟨by have := (h.mem x hx).1; have := h.c0; omega, (h.mem x hx).2⟩
theorem lastN_append (c : Int) (a b : List El) : lastN c (a ++ b) = lastN (lastN c a) b := by simp [lastN, List.foldl_append]
/-- What a release comes to: the first k go. -/
structure Rel (c : Int) (l : List El) (r : List Dg × Int × List El) (k : Nat) : Prop where
  le : k ≤ l.length
  out : r.1 = (l.take k).map dg
  cur : r.2.1 = lastN c (l.take k)
  rest : r.2.2 = l.drop k
theorem Rel.zero (c : Int) (l : List El) : Rel c l ([], c, l) 0 := ⟨Nat.zero_le _, by simp, by simp [lastN], by simp⟩
theorem run_rel : ∀ (l : List El) (c : Int), ∃ k, Rel c l (runM l c) k
  | [], c => ⟨0, Rel.zero c []⟩
  | x :: l, c => by
    unfold runM
    split
    · obtain ⟨k, h⟩ := run_rel l x.1
      exact ⟨k + 1, by have := h.le; simp; omega, by simp [h.out, dg], by simp [h.cur, lastN], by simp [h.rest]⟩
    · exact ⟨0, Rel.zero c _⟩
theorem filter_up (n : Int) : ∀ (l : List El), Up l → ∃ k, k ≤ l.length ∧ l.filter (fun x => decide (x.1 ≤ n)) = l.take k ∧ l.filter (fun x => !decide (x.1 ≤ n)) = l.drop k
  | [], _ => ⟨0, by simp⟩
  | x :: l, h => by
    have h' := List.pairwise_cons.1 h
    by_cases hx : x.1 ≤ n
    · obtain ⟨k, h1, h2, h3⟩ := filter_up n l h'.2
      exact ⟨k + 1, by simp; omega, by simp [hx, h2], by simp [hx, h3]⟩
    · refine ⟨0, by simp, ?_, ?_⟩
      · rw [List.take_zero, List.filter_eq_nil_iff]
        intro y hy
        rcases List.mem_cons.1 hy with rfl | hy
        · simpa using hx
        · have := h'.1 y hy
          simp; omega
      · rw [List.drop_zero, List.filter_eq_self]
        intro y hy
        rcases List.mem_cons.1 hy with rfl | hy
        · simpa using hx
        · have := h'.1 y hy
          simp; omega
theorem take_more {α : Type} (l : List α) (i j : Nat) : l.take (i + j) = l.take i ++ (l.drop i).take j := by rw [List.take_add]
theorem up_rel (num c : Int) (l : List El) (h : Up l) : ∃ k, Rel c l (upM num c l) k := by
  obtain ⟨i, h1, h2, h3⟩ := filter_up num l h
  obtain ⟨j, hj⟩ := run_rel (l.drop i) (lastN c (l.take i))
  unfold upM
  rw [h2, h3]
  refine ⟨i + j, ?_, ?_, ?_, ?_⟩
  · have := hj.le; simp at this; omega
  · simp [hj.out, take_more]
  · simp [hj.cur, take_more, lastN_append]
  · simp [hj.rest, List.drop_drop]
theorem due_rel (c : Int) (l : List El) (now : Int) (h : Up l) : ∃ k, Rel c l (dueM c l now) k := by
  unfold dueM
  split
  · exact ⟨0, Rel.zero c l⟩
  · exact up_rel _ c l h
theorem lastN_mem : ∀ (l : List El) (c : Int), lastN c l = c ∨ ∃ x ∈ l, lastN c l = x.1
  | [], c => .inl rfl
  | y :: l, c => by
    rcases lastN_mem l y.1 with h | ⟨x, hx, h⟩
    · exact .inr ⟨y, by simp, by simpa [lastN] using h⟩
    · exact .inr ⟨x, List.mem_cons_of_mem _ hx, by simpa [lastN] using h⟩
theorem lastN_ge {c : Int} {l : List El} (h : ∀ x ∈ l, c < x.1) : c ≤ lastN c l := by
  rcases lastN_mem l c with e | ⟨x, hx, e⟩
  · omega
  · have := h x hx; omega
theorem Ok.rel {c : Int} {l : List El} {r : List Dg × Int × List El} {k : Nat} (h : Ok c l) (hr : Rel c l r k) : Ok r.2.1 r.2.2 := by
  have hu : Up (l.take k ++ l.drop k) := by rw [List.take_append_drop]; exact h.up
  have hu' := List.pairwise_append.1 hu
  rw [hr.cur, hr.rest]
  rcases lastN_mem (l.take k) c with e | ⟨x, hx, e⟩
  · rw [e]
    exact ⟨h.c0, h.c1, fun y hy => h.mem y (List.mem_of_mem_drop hy), hu'.2.1⟩
  · rw [e]
    have hm := h.mem x (List.mem_of_mem_take hx)
    refine ⟨by have := h.c0; omega, hm.2, fun y hy => ⟨hu'.2.2 x hx y hy, (h.mem y (List.mem_of_mem_drop hy)).2⟩, hu'.2.1⟩

/-- Laid in its place. -/
theorem lay_nil (d : Dg) (till : Int) : lay d till [] = [(d.1, d.2, till)] := rfl
theorem lay_cons (d : Dg) (till : Int) (y : El) (l : List El) : lay d till (y :: l) = if d.1 < y.1 then (d.1, d.2, till) :: y :: l else y :: lay d till l := by
  unfold lay placed
  rw [List.findIdx_cons]
  by_cases h : d.1 < y.1
  · simp [h]
  · simp [h]
theorem lay_perm (d : Dg) (till : Int) : ∀ l, (lay d till l).Perm ((d.1, d.2, till) :: l)
  | [] => .refl _
  | y :: l => by
    rw [lay_cons]
    split
    · exact .refl _
    · exact ((lay_perm d till l).cons y).trans (List.Perm.swap _ _ _)
theorem lay_up (d : Dg) (till : Int) : ∀ (l : List El), Up l → (∀ x ∈ l, x.1 ≠ d.1) → Up (lay d till l)
  | [], _, _ => by simp [lay_nil, Up]
  | y :: l, h, hn => by
    have h' := List.pairwise_cons.1 h
    have hy := hn y (by simp)
    rw [lay_cons]
    split
    · rename_i hd
      refine List.pairwise_cons.2 ⟨fun z hz => ?_, h⟩
      rcases List.mem_cons.1 hz with rfl | hz
      · exact hd
      · have := h'.1 z hz; show d.1 < z.1; omega
    · rename_i hd
      refine List.pairwise_cons.2 ⟨fun z hz => ?_, lay_up d till l h'.2 fun x hx => hn x (List.mem_cons_of_mem _ hx)⟩
      rcases lay_mem hz with rfl | hz
      · show y.1 < d.1; omega
      · exact h'.1 z hz
theorem any_ne {l : List El} {n : Int} (h : (l.any fun x => x.1 == n) = false) : ∀ x ∈ l, x.1 ≠ n := fun x hx e => by
  rw [List.any_eq_false] at h
  exact h x hx (by simpa using e)
theorem lay_ok {c : Int} {l : List El} (d : Dg) (till : Int) (h : Ok c l) (hf : (fitsM c l d.1).2 = true) : Ok c (lay d till l) := by
  obtain ⟨h1, h2, h3⟩ := fits_facts hf
  refine ⟨h.c0, h.c1, fun x hx => ?_, lay_up d till l h.up (any_ne h3)⟩
  rcases lay_mem hx with rfl | hx
  · exact ⟨h1, h2⟩
  · exact h.mem x hx
/-- The first of those laid is this one, if it is next. -/
theorem lay_next {c : Int} {l : List El} (d : Dg) (till : Int) (h : Ok c l) (hf : (fitsM c l d.1).2 = true) (hn : d.1 = c + 1) : lay d till l = (d.1, d.2, till) :: l := by
  obtain ⟨h1, h2, h3⟩ := fits_facts hf
  cases l with
  | nil => rfl
  | cons y l =>
    rw [lay_cons, if_pos]
    have := (h.mem y (by simp)).1
    have := any_ne h3 y (by simp)
    omega
theorem headV_mem {l : List El} (h : 0 < l.length) : headV l ∈ l := by
  cases l with
  | nil => simp at h
  | cons x l => simp [headV]
/-- Of those up to the first one at least one goes. -/
theorem up_first (c : Int) (l : List El) (h : Up l) (h0 : 0 < l.length) : ∃ k, 0 < k ∧ Rel c l (upM (headV l).1 c l) k := by
  obtain ⟨k, hk⟩ := up_rel (headV l).1 c l h
  refine ⟨k, ?_, hk⟩
  cases k with
  | succ k => omega
  | zero =>
    exfalso
    have h1 := hk.out
    cases l with
    | nil => simp at h0
    | cons x l => simp [upM, headV] at h1
/-- What Put comes to. -/
inductive PutCase (c : Int) (l : List El) (d : Dg) (till : Int) (r : (Int × List Dg) × Int × List El) : Prop
  | no (h : (fitsM c l d.1).2 = false) (hw : 2 ≤ r.1.1 ∧ r.1.1 ≤ 4) (e : r = ((r.1.1, []), c, l))
  | yes (k : Nat) (h : (fitsM c l d.1).2 = true) (hw : r.1.1 = if d.1 = c + 1 then 0 else 1) (hr : Rel c (lay d till l) (r.1.2, r.2) k) (hn : d.1 = c + 1 → r.1.2.head? = some d) (hs : r.2.2.length ≤ 32)
theorem fits_what {c n : Int} {l : List El} (h : (fitsM c l n).2 = false) : 2 ≤ (fitsM c l n).1 ∧ (fitsM c l n).1 ≤ 4 := by
  unfold fitsM at h ⊢
  split at h
  · rename_i h1; simp [h1]
  · rename_i h1
    split at h
    · rename_i h2; simp [h1, h2]
    · rename_i h2
      split at h
      · rename_i h3; simp [h1, h2, h3]
      · cases h
theorem put_case {c : Int} {l : List El} (d : Dg) (till : Int) (h : Ok c l) (hl : l.length ≤ 32) : PutCase c l d till (putM c l d till) := by
  unfold putM
  cases hf : (fitsM c l d.1).2 with
  | false =>
    have := fits_what hf
    exact .no hf (by simpa using this) (by simp)
  | true =>
    have hk := lay_ok d till h hf
    have hlen := lay_len d till l
    by_cases hn : d.1 = c + 1
    · rw [if_pos rfl, if_pos hn]
      obtain ⟨k, hr⟩ := run_rel (lay d till l) c
      have hne := lay_next d till h hf hn
      refine .yes k hf (by rw [if_pos hn]) hr (fun _ => ?_) ?_
      · rw [hne, runM, if_pos hn]
        rfl
      · have h1 : 0 < k := by
          cases k with
          | succ k => omega
          | zero =>
            exfalso
            have h1 := hr.out
            rw [hne, runM, if_pos hn] at h1
            simp at h1
        show (runM (lay d till l) c).2.2.length ≤ 32
        rw [hr.rest, List.length_drop]
        omega
    · rw [if_pos rfl, if_neg hn]
      by_cases h3 : 32 < (lay d till l).length
      · rw [if_pos h3]
        obtain ⟨k, h1, hr⟩ := up_first c (lay d till l) hk.up (by omega)
        refine .yes k hf (by rw [if_neg hn]) hr (fun e => absurd e hn) ?_
        show (upM _ c (lay d till l)).2.2.length ≤ 32
        rw [hr.rest, List.length_drop]
        omega
      · rw [if_neg h3]
        refine .yes 0 hf (by rw [if_neg hn]) (Rel.zero c _) (fun e => absurd e hn) ?_
        show (lay d till l).length ≤ 32
        omega
/-- Behind Due none waits whose time has come. -/
theorem dueN_pos {now : Int} : ∀ (l : List El), (∀ x ∈ l, 0 < x.1) → Up l → ∀ a, 0 ≤ a → (∀ x ∈ l, a < x.1) → ∀ x ∈ l, x.2.2 ≤ now → x.1 ≤ l.foldl (fun a x => if x.2.2 ≤ now then x.1 else a) a
  | [], _, _, _, _, _, _, hx, _ => by cases hx
  | y :: l, hp, hu, a, h0, ha, x, hx, hd => by
    have h' := List.pairwise_cons.1 hu
    have ge : ∀ (l : List El) (b : Int), Up l → (∀ x ∈ l, b < x.1) → b ≤ l.foldl (fun a x => if x.2.2 ≤ now then x.1 else a) b := by
      intro l
      induction l with
      | nil => intro b _ _; exact Int.le_refl _
      | cons z l ih =>
        intro b hu hb
        have h2 := List.pairwise_cons.1 hu
        simp only [List.foldl_cons]
        have hz := hb z (by simp)
        split
        · have := ih z.1 h2.2 h2.1; omega
        · exact ih b h2.2 fun x hx => hb x (List.mem_cons_of_mem _ hx)
    simp only [List.foldl_cons]
    rcases List.mem_cons.1 hx with rfl | hx
    · rw [if_pos hd]
      exact ge l _ h'.2 h'.1
    · split
      · exact dueN_pos l (fun x hx => hp x (List.mem_cons_of_mem _ hx)) h'.2 y.1 (by have := hp y (by simp); omega) h'.1 x hx hd
      · exact dueN_pos l (fun x hx => hp x (List.mem_cons_of_mem _ hx)) h'.2 a h0 (fun x hx => ha x (List.mem_cons_of_mem _ hx)) x hx hd
theorem dueN_zero {now : Int} : ∀ (l : List El) (a : Int), (∀ x ∈ l, ¬ x.2.2 ≤ now) → l.foldl (fun a x => if x.2.2 ≤ now then x.1 else a) a = a
  | [], _, _ => rfl
  | y :: l, a, h => by
    simp only [List.foldl_cons]
    rw [if_neg (h y (by simp))]
    exact dueN_zero l a fun x hx => h x (List.mem_cons_of_mem _ hx)
theorem due_rest {c now : Int} {l : List El} (h : Ok c l) : ∀ x ∈ (dueM c l now).2.2, ¬ x.2.2 ≤ now := by
  intro x hx hd
  have hpos : ∀ x ∈ l, 0 < x.1 := fun x hx => (h.pos x hx).1
  unfold dueM at hx
  split at hx
  · rename_i h0
    have hx' : x ∈ l := hx
    have := dueN_pos l hpos h.up 0 (Int.le_refl _) hpos x hx' hd
    have := hpos x hx'
    unfold dueN at h0
    omega
  · obtain ⟨j, hj⟩ := run_rel (l.filter fun x => !decide (x.1 ≤ dueN now l)) (lastN c (l.filter fun x => decide (x.1 ≤ dueN now l)))
    have hx1 : x ∈ (runM (l.filter fun x => !decide (x.1 ≤ dueN now l)) (lastN c (l.filter fun x => decide (x.1 ≤ dueN now l)))).2.2 := hx
    rw [hj.rest] at hx1
    have hx2 := List.mem_filter.1 (List.mem_of_mem_drop hx1)
    have := dueN_pos l hpos h.up 0 (Int.le_refl _) hpos x hx2.1 hd
    have h3 := hx2.2
    simp at h3
    unfold dueN at h3
    omega
theorem due_again {c now : Int} {l : List El} (h : Ok c l) : dueM (dueM c l now).2.1 (dueM c l now).2.2 now = ([], (dueM c l now).2.1, (dueM c l now).2.2) := by
  have h1 := due_rest (now := now) h
  have h2 : dueN now (dueM c l now).2.2 = 0 := dueN_zero _ 0 h1
  generalize (dueM c l now).2.2 = L at *
  unfold dueM
  rw [if_pos h2]
end Go.Proofs.Ytiaefmmcakagpaa.Sift
