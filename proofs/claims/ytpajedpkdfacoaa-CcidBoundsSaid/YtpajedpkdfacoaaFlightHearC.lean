
/- The walk of the package flight: Took. -/
import Derived.Test.YtpajedpkdfacoaaFlightTookC
namespace Go.Proofs.Ytpajedpkdfacoaa.Flight
set_option linter.unusedSimpArgs false
set_option linter.unusedVariables false
open Go Go.RowKit Go.Shelf Go.Proofs.Ytpajedpkdfacoaa Go.Proofs.Ytpajedpkdfacoaa.DockSPtr Go.Proofs.Ytpajedpkdfacoaa.Circ Go.Proofs.Ytpajedpkdfacoaa.Avec
attribute [local irreducible] Calls

/-- What hearing of all of l comes to. -/
def hearA (st : Int → Int) (t : Int) (l : List Un) : Acc := l.foldl (stepA st t) ⟨[], 0, 0, 0⟩
def lostU (l : List Un) : List Un := l.filter fun u => decide (3 ≤ u.later)
def leftU (l : List Un) : List Un := l.filter fun u => !decide (3 ≤ u.later)
def newestU (l : List Un) : Int := (l.getLast?.map Un.seq).getD 0
def newsL (A : Acc) : List Value := [.int .i64 A.ack, .int .i64 (lostU A.ahead).length, .int .i64 A.mark, .int .i64 A.trip, .int .i64 (newestU (lostU A.ahead))]
def newsV (A : Acc) : Value := .agg (newsL A).toArray
theorem hear_snoc (st : Int → Int) (t : Int) (l : List Un) (u : Un) : hearA st t (l ++ [u]) = stepA st t (hearA st t l) u := by unfold hearA; rw [List.foldl_append]; rfl

/-- What holds of a hearing of m. -/
structure Inv (A : Acc) (m : Nat) : Prop where
  all : (A.ahead.length : Int) + A.ack = m
  ack : 0 ≤ A.ack
  mark : 0 ≤ A.mark
  less : A.mark ≤ A.ack
  trip : 0 < A.trip ↔ 0 < A.ack
  trip0 : 0 ≤ A.trip
  un : ∀ x ∈ A.ahead, 0 ≤ x.later ∧ x.later ≤ 2 + m ∧ 0 ≤ x.at_ ∧ x.at_ ≤ 1099511627776
def OkU (u : Un) : Prop := 0 ≤ u.later ∧ u.later ≤ 2 ∧ 0 ≤ u.at_ ∧ u.at_ ≤ 1099511627776
theorem inv_step {st : Int → Int} {t : Int} {A : Acc} {m : Nat} {u : Un} (h : Inv A m) (hu : OkU u) : Inv (stepA st t A u) (m + 1) := by
  obtain ⟨a, b, c, d, e, f, g⟩ := h
  obtain ⟨u1, u2, u3, u4⟩ := hu
  unfold stepA
  by_cases h3 : st u.seq = 3
  · rw [if_pos h3]
    refine ⟨?_, b, c, d, e, f, ?_⟩
    · simp only [List.length_append, List.length_cons, List.length_nil]; omega
    · intro x hx
      rcases List.mem_append.1 hx with hx | hx
      · have := g x hx; omega
      · obtain rfl := List.mem_singleton.1 hx; omega
  · rw [if_neg h3]
    refine ⟨?_, by simp only; omega, ?_, ?_, ?_, ?_, ?_⟩
    · simp only [List.length_map]; omega
    · simp only; split <;> omega
    · simp only; split <;> omega
    · simp only; omega
    · simp only; omega
    · intro x hx
      simp only at hx
      obtain ⟨y, hy, rfl⟩ := List.mem_map.1 hx
      have := g y hy
      simp only [incU]
      omega
theorem inv_all {st : Int → Int} {t : Int} : ∀ (l : List Un) (A : Acc) (m : Nat), Inv A m → (∀ u ∈ l, OkU u) → Inv (l.foldl (stepA st t) A) (m + l.length)
  | [], A, m, h, _ => h
  | u :: l, A, m, h, hu => by
    have := inv_all (st := st) (t := t) l (stepA st t A u) (m + 1) (inv_step h (hu u (List.mem_cons_self ..))) fun x hx => hu x (List.mem_cons_of_mem _ hx)
    rw [List.foldl_cons, List.length_cons, show m + (l.length + 1) = m + 1 + l.length by omega]
    exact this
theorem hear_inv {st : Int → Int} {t : Int} (l : List Un) (h : ∀ u ∈ l, OkU u) : Inv (hearA st t l) l.length := by
  have := inv_all (st := st) (t := t) l ⟨[], 0, 0, 0⟩ 0 ⟨rfl, by simp, by simp, by simp, by simp, by simp, fun x hx => by cases hx⟩ h
  rw [Nat.zero_add] at this
  exact this
theorem inc_ptr (l : List Un) : (l.map incU).map ptr = l.map ptr := by rw [List.map_map]; rfl
theorem fold_ptr {st : Int → Int} {t : Int} : ∀ (l : List Un) (A : Acc), (l.foldl (stepA st t) A).ahead.map ptr = A.ahead.map ptr ++ (l.filter fun u => decide (st u.seq = 3)).map ptr
  | [], A => by simp
  | u :: l, A => by
    rw [List.foldl_cons, fold_ptr l]
    unfold stepA
    by_cases h3 : st u.seq = 3
    · rw [if_pos h3, List.filter_cons_of_pos (by simpa using h3)]
      simp
    · rw [if_neg h3, List.filter_cons_of_neg (by simpa using h3)]
      simp only
      rw [inc_ptr]
theorem hear_ptr {st : Int → Int} {t : Int} (l : List Un) : (hearA st t l).ahead.map ptr = (l.filter fun u => decide (st u.seq = 3)).map ptr := by
  unfold hearA
  rw [fold_ptr]
  rfl

/-- A question on packets, by their places. -/
def qp (l : List Un) (q : Un → Bool) (pre : List El) (_ : El) : Bool := (l[pre.length]?.map q).getD false
theorem qp_at (q : Un → Bool) (l1 l2 : List Un) (u : Un) (x : El) : qp (l1 ++ u :: l2) q (l1.map ptr) x = q u := by simp [qp]
theorem outs_q (q : Un → Bool) : ∀ (l2 l1 : List Un), outs (qp (l1 ++ l2) q) (l1.map ptr) (l2.map ptr) = (l2.filter q).map ptr
  | [], l1 => by simp [outs]
  | u :: l2, l1 => by
    have h := outs_q q l2 (l1 ++ [u])
    rw [List.append_assoc, List.singleton_append, List.map_append] at h
    simp only [List.map_cons, List.map_nil] at h
    simp only [List.map_cons, outs, qp_at, h]
    cases hq : q u <;> simp [hq]
theorem rests_q (q : Un → Bool) : ∀ (l2 l1 : List Un), rests (qp (l1 ++ l2) q) (l1.map ptr) (l2.map ptr) = (l2.filter fun u => !q u).map ptr
  | [], l1 => by simp [rests]
  | u :: l2, l1 => by
    have h := rests_q q l2 (l1 ++ [u])
    rw [List.append_assoc, List.singleton_append, List.map_append] at h
    simp only [List.map_cons, List.map_nil] at h
    simp only [List.map_cons, rests, qp_at, h]
    cases hq : q u <;> simp [hq]
theorem split_ptr {l : List Un} {pre : List El} {x : El} {suf : List El} (h : l.map ptr = pre ++ x :: suf) : ∃ l1 u l2, l = l1 ++ u :: l2 ∧ pre = l1.map ptr ∧ x = ptr u := by
  obtain ⟨l1, l2, rfl, rfl, h2⟩ := List.map_eq_append_iff.1 h
  obtain ⟨u, l3, rfl, rfl, rfl⟩ := List.map_eq_cons_iff.1 h2
  exact ⟨l1, u, l3, rfl, rfl, rfl⟩
theorem uns_keep {W w : World} {S : Nat → Prop} {r : List Asn} (q : Un → Bool) : ∀ (l d : List Un), St W S w (unsA d :: (l.map unA ++ r)) → St W S w (unsA (d ++ l.filter q) :: r)
  | [], d, h => by simpa using h
  | u :: l, d, h => by
    have h1 : St W S w (unsA d :: unA u :: (l.map unA ++ r)) := h
    by_cases hq : q u = true
    · have h2 := uns_add (h1.arrN [1, 0] rfl)
      have := uns_keep q l (d ++ [u]) h2
      rw [List.filter_cons_of_pos hq]
      rw [List.append_assoc] at this
      exact this
    · rw [List.filter_cons_of_neg hq]
      exact uns_keep q l d (h1.drop 1 rfl)
theorem uns_filter {W w : World} {S : Nat → Prop} {l : List Un} {r : List Asn} (q : Un → Bool) (h : St W S w (unsA l :: r)) : St W S w (unsA (l.filter q) :: r) := by
  have h1 : St W S w (l.map unA ++ r) := St.unsep 0 h rfl
  exact uns_keep q l [] (uns_nil h1)

theorem took2_any (l1 l2 : List Un) (u : Un) (w : World) (S : Nat → Prop) (h : (unsA (l1 ++ u :: l2)).holds w S) :
    Calls Try.prog 126 #[.pointer (some ⟨u.b, 0, none⟩)] w (Fin w S (.bool (decide (3 ≤ u.later))) [unsA (l1 ++ u :: l2)]) := by
  have H0 : St w S w [_] := St.start (Sep.one h)
  obtain ⟨zu, cu, fu⟩ := (uns_split H0).box 0 rfl
  obtain ⟨b, seq, at_, later⟩ := u
  clear h
  replace H0 := Lib.hid H0
  go_enter Try.func126, Try.ntmps126
  go_wp2_with fail
  go_ret
  exact ⟨rfl, H0.out⟩
theorem took_none (fr now : Int) (ra : Option Addr) (n cap : Nat) (w : World) : Calls Try.prog 89 #[.pointer none, .int .i64 fr, .slice ra n cap, .int .i64 now] w
    (Ret w (.agg #[.int .i64 0, .int .i64 0, .int .i64 0, .int .i64 0, .int .i64 0])) := by
  go_enter Try.func89, Try.ntmps89
  go_wp2_with fail
  exact bodyPost_ret (v := .agg #[.int .i64 0, .int .i64 0, .int .i64 0, .int .i64 0, .int .i64 0]) (by simp [results, Try.results89, go_sem]) rfl (Ret.mk rfl (by repeat (first | with_reducible exact Below.refl _ _ | (with_reducible refine Below.al ?_) | (with_reducible refine Below.drew ?_) | (with_reducible refine Below.set ?_ (by first | (simp; done) | omega | (simp; omega))) | (with_reducible refine Below.thru ?_ (by assumption)) | (with_reducible refine Below.chg ?_ (by assumption) (by first | (simp; done) | omega | (simp; omega))))))
end Go.Proofs.Ytpajedpkdfacoaa.Flight
