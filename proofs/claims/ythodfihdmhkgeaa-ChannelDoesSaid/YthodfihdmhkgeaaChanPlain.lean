/- What stays of what was sent: the plain law of ChannelParts. -/
import Derived.Test.YthodfihdmhkgeaaChanLaw
namespace Go.Proofs.Ythodfihdmhkgeaa.Chan
set_option linter.unusedSimpArgs false
set_option linter.unusedVariables false
open Go Go.RowKit Go.Proofs.Ythodfihdmhkgeaa

/-- What is sent, and whether it leaves. -/
abbrev It := Dg × Bool
def sentI (l : List It) : List Dg := l.map (·.1)
def gotI (l : List It) : List Dg := (l.filter fun x => !x.2).map (·.1)
def outI (l : List It) : Nat := (l.filter fun x => x.2).length
/-- The numbers rise. -/
def Up (l : List It) : Prop := l.Pairwise fun a b => a.1.1 < b.1.1

theorem sent_take {l : List It} {k : Nat} (h : k < l.length) : sentI (l.take (k + 1)) = sentI (l.take k) ++ [l[k].1] := by
  unfold sentI; rw [List.take_succ_eq_append_getElem h, List.map_append]; rfl
theorem got_take {l : List It} {k : Nat} (h : k < l.length) : gotI (l.take (k + 1)) = gotI (l.take k) ++ (if l[k].2 then [] else [l[k].1]) := by
  unfold gotI; rw [List.take_succ_eq_append_getElem h, List.filter_append, List.map_append]
  congr 1
  cases hb : l[k].2 <;> simp [hb]
theorem out_take {l : List It} {k : Nat} (h : k < l.length) : outI (l.take (k + 1)) = outI (l.take k) + (if l[k].2 then 1 else 0) := by
  unfold outI; rw [List.take_succ_eq_append_getElem h, List.filter_append, List.length_append]
  congr 1
  cases hb : l[k].2 <;> simp [hb]
theorem got_len (l : List It) : (gotI l).length ≤ l.length := by
  unfold gotI; rw [List.length_map]; exact List.length_filter_le _ _
theorem out_len (l : List It) : outI l ≤ l.length := by unfold outI; exact List.length_filter_le _ _

theorem got_sub (l : List It) : (gotI l).Sublist (sentI l) := by
  unfold gotI sentI
  exact List.Sublist.map _ List.filter_sublist
theorem rising_got {l : List It} (h : Up l) : risingB (gotI l) = true := by
  refine decide_eq_true ?_
  have : (sentI l).Pairwise fun a b => a.1 < b.1 := List.pairwise_map.2 h
  exact this.sublist (got_sub l)
theorem part_got (l : List It) : partB (sentI l) (gotI l) = true := by
  unfold partB
  rw [List.all_eq_true]
  intro d hd
  exact List.any_eq_true.2 ⟨d, (got_sub l).subset hd, (dgEq_iff d d).2 rfl⟩
theorem fold_sub (got : List Dg) : ∀ (sent : List Dg) (at_ : Nat), at_ ≤ got.length → (got.drop at_).Sublist sent → sent.foldl (fun at_ d => stepAt got at_ d.2) at_ = got.length := by
  intro sent
  induction sent with
  | nil =>
    intro at_ h hs
    have := List.sublist_nil.1 hs
    have := congrArg List.length this
    simp at this
    simp; omega
  | cons d sent ih =>
    intro at_ h hs
    simp only [List.foldl_cons]
    by_cases hl : at_ < got.length
    · rw [List.drop_eq_getElem_cons hl] at hs
      cases hq : (got[at_].2.toList == d.2.toList)
      · rw [step_no hl hq]
        refine ih at_ h ?_
        rw [List.drop_eq_getElem_cons hl]
        cases hs with
        | cons _ hs => exact hs
        | cons_cons _ hs => simp at hq
      · rw [step_yes hl hq]
        refine ih (at_ + 1) hl ?_
        cases hs with
        | cons _ hs => exact (List.sublist_cons_self _ _).trans hs
        | cons_cons _ hs => exact hs
    · rw [step_end hl]
      refine ih at_ h ?_
      rw [List.drop_eq_nil_of_le (by omega)]
      exact List.nil_sublist _
theorem within_got (l : List It) : withinB (sentI l) (gotI l) = true :=
  decide_eq_true (fold_sub _ _ 0 (Nat.zero_le _) (by simpa using got_sub l))
theorem fold_le (got : List Dg) : ∀ (sent : List Dg) (at_ : Nat), sent.foldl (fun at_ d => stepAt got at_ d.2) at_ ≤ at_ + sent.length := by
  intro sent
  induction sent with
  | nil => intro at_; simp
  | cons d sent ih =>
    intro at_
    simp only [List.foldl_cons, List.length_cons]
    have := ih (stepAt got at_ d.2)
    have h2 : stepAt got at_ d.2 ≤ at_ + 1 := by unfold stepAt; (repeat' split) <;> omega
    omega
theorem len_parts (l : List It) : (gotI l).length + outI l = l.length := by
  unfold gotI outI
  rw [List.length_map]
  induction l with
  | nil => rfl
  | cons x l ih => cases hb : x.2 <;> simp [hb] <;> omega
theorem mem_got {l : List It} {d : Dg} : d ∈ gotI l ↔ (d, false) ∈ l := by
  unfold gotI
  rw [List.mem_map]
  constructor
  · rintro ⟨⟨d', b⟩, h, rfl⟩
    rw [List.mem_filter] at h
    obtain ⟨h1, h2⟩ := h
    simp at h2
    subst h2
    exact h1
  · intro h
    exact ⟨(d, false), List.mem_filter.2 ⟨h, rfl⟩, rfl⟩
theorem up_eq {l : List It} (h : Up l) {a b : It} (ha : a ∈ l) (hb : b ∈ l) (e : a.1.1 = b.1.1) : a = b := by
  obtain ⟨i, hi, rfl⟩ := List.getElem_of_mem ha
  obtain ⟨j, hj, rfl⟩ := List.getElem_of_mem hb
  have hp := List.pairwise_iff_getElem.1 h
  by_cases h1 : i < j
  · have := hp i j hi hj h1; omega
  · by_cases h2 : j < i
    · have := hp j i hj hi h2; omega
    · obtain rfl : i = j := by omega
      rfl
theorem num_got {l : List It} (h : Up l) {x : It} (hx : x ∈ l) : numB (gotI l) x.1.1 = !x.2 := by
  unfold numB
  cases hb : x.2
  · refine List.any_eq_true.2 ⟨x.1, mem_got.2 ?_, by simp⟩
    rw [← hb]; exact hx
  · rw [Bool.not_true, List.any_eq_false]
    intro d hd
    have hm := mem_got.1 hd
    simp
    intro e
    have := up_eq h hm hx e
    rw [← this] at hb
    simp at hb
theorem lost_got {l : List It} (h : Up l) : (lostL (sentI l) (gotI l)).length = outI l := by
  unfold lostL outI
  rw [List.length_map]
  have : ∀ l' : List It, (∀ x ∈ l', x ∈ l) → ((sentI l').filter fun d => !numB (gotI l) d.1).length = (l'.filter fun x => x.2).length := by
    intro l'
    induction l' with
    | nil => intro _; rfl
    | cons x l' ih =>
      intro hs
      have h1 := num_got h (hs x (by simp))
      have h2 := ih fun y hy => hs y (by simp [hy])
      unfold sentI at h2 ⊢
      cases hb : x.2 <;> simp [h1, hb, h2]
  exact this l fun _ h => h
theorem part_not {l : List It} (h : Up l) (ho : outI l ≠ 0) : partB (gotI l) (sentI l) = false := by
  have : ∃ x ∈ l, x.2 = true := by
    have : (l.filter fun x => x.2) ≠ [] := fun e => ho (by unfold outI; rw [e]; rfl)
    obtain ⟨x, hx⟩ := List.exists_mem_of_ne_nil _ this
    exact ⟨x, (List.mem_filter.1 hx).1, (List.mem_filter.1 hx).2⟩
  obtain ⟨x, hx, hb⟩ := this
  unfold partB
  refine List.all_eq_false.2 ⟨x.1, List.mem_map.2 ⟨x, hx, rfl⟩, ?_⟩
  intro hh
  obtain ⟨d, hd, he⟩ := List.any_eq_true.1 hh
  obtain rfl := (dgEq_iff _ _).1 he
  have := up_eq h hx (mem_got.1 hd) rfl
  rw [this] at hb
  simp at hb
theorem within_not {l : List It} (ho : outI l ≠ 0) : withinB (gotI l) (sentI l) = false := by
  refine decide_eq_false fun e => ?_
  have h1 := fold_le (sentI l) (gotI l) 0
  have h2 := len_parts l
  have h3 : (sentI l).length = l.length := by simp [sentI]
  unfold greedy at e
  omega

/-- The items of ChannelParts. -/
def itemsOf (D : List ByteArray) (lv : List Bool) : List It := D.mapIdx fun i s => (((i : Int) + 1, s), lv.getD i false)
theorem items_len (D : List ByteArray) (lv : List Bool) : (itemsOf D lv).length = D.length := by simp [itemsOf]
theorem items_at {D : List ByteArray} {lv : List Bool} {k : Nat} (h : k < (itemsOf D lv).length) : (itemsOf D lv)[k] = (((k : Int) + 1, D[k]'(by rw [items_len] at h; exact h)), lv.getD k false) := by
  simp [itemsOf]
theorem items_up (D : List ByteArray) (lv : List Bool) : Up (itemsOf D lv) := by
  refine List.pairwise_iff_getElem.2 fun i j hi hj hij => ?_
  rw [items_at, items_at]
  simp; omega
end Go.Proofs.Ythodfihdmhkgeaa.Chan
