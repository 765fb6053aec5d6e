/- What both flights' calls come to, side by side; same. -/
import Derived.Test.YtljgmephajocaaaFlightRefTook
namespace Go.Proofs.Ytljgmephajocaaa.Flight
set_option linter.unusedSimpArgs false
set_option linter.unusedVariables false
open Go Go.RowKit Go.Shelf Go.Proofs.Ytljgmephajocaaa Go.Proofs.Ytljgmephajocaaa.DockSPtr Go.Proofs.Ytljgmephajocaaa.Circ Go.Proofs.Ytljgmephajocaaa.Avec
attribute [local irreducible] Calls

theorem same_any (a b c d e : Int) (w : World) : Calls Try.prog 46 #[.agg #[.int .i64 a, .int .i64 b, .int .i64 c, .int .i64 d, .int .i64 e], .agg #[.int .i64 a, .int .i64 b, .int .i64 c, .int .i64 d, .int .i64 e]] w (Ret w (.bool true)) := by
  have q1 : (a == a) = true := by simp
  have q2 : (b == b) = true := by simp
  have q3 : (c == c) = true := by simp
  have q4 : (d == d) = true := by simp
  have q5 : (e == e) = true := by simp
  go_enter Try.func46, Try.ntmps46
  go_wp2_with fail
  go_ret
  exact Ret.mk rfl (by repeat (first | with_reducible exact Below.refl _ _ | (with_reducible refine Below.al ?_) | (with_reducible refine Below.drew ?_) | (with_reducible refine Below.set ?_ (by first | (simp; done) | omega | (simp; omega))) | (with_reducible refine Below.thru ?_ (by assumption)) | (with_reducible refine Below.chg ?_ (by assumption) (by first | (simp; done) | omega | (simp; omega)))))
def Fine (l : List Un) : Prop := l.length ≤ 64 ∧ ∀ u ∈ l, OkU u
theorem Fine.good {l : List Un} (h : Fine l) : Good l l.length 0 l.length := ⟨by omega, by omega, by omega, h.1, h.2⟩
theorem Good.fine {l : List Un} {pn dn : Int} {j : Nat} (h : Good l pn dn j) : Fine l := ⟨h.few, h.ok⟩
theorem Fine.put {l : List Un} (h : Fine l) (b : Nat) (seq now : Int) : Fine (putU l b seq now) := (h.good.put b seq now).elim (fun x => x.2.fine) (fun x => x.2.fine)
theorem Fine.took {l : List Un} (h : Fine l) (st : Int → Int) (t : Int) : Fine (leftU (hearA st t l).ahead) := (h.good.took st t).fine
theorem fine_nil : Fine [] := ⟨by simp, fun u h => by cases h⟩
theorem encUs_put (l : List Un) (b c : Nat) (seq now : Int) : encUs (putU l b seq now) = encUs (putU l c seq now) ∧ (putU l b seq now).length = (putU l c seq now).length := by
  unfold putU
  split
  · simp [encUs, encU]
  · exact ⟨rfl, rfl⟩
theorem refF_put (q : Nat) (l : List Un) (b c : Nat) (seq now : Int) : refF q (putU l b seq now) = refF q (putU l c seq now) := by
  unfold refF
  rw [(encUs_put l b c seq now).1, (encUs_put l b c seq now).2]
section
variable {W w : World} {S : Nat → Prop} {r : List Asn} {f q : Nat} {l : List Un}
theorem put_st (seq now : Int) (hl : Fine l) (H : St W S w (flightA f l :: r)) :
    Calls Try.prog 32 #[.pointer (some ⟨f, 0, none⟩), .int .i64 seq, .int .i64 now] w (fun e w' => ∃ b, e = .returned (.bool (putOk l)) ∧ St W S w' (flightA f (putU l b seq now) :: r)) := by
  obtain ⟨S1, h1, _, c⟩ := H.at 0 rfl
  exact (put_any f l seq now (by have := hl.1; omega) w S1 h1).mono fun e w' ⟨b, he, h2⟩ => ⟨b, he, c _ _ h2⟩
theorem rput_st (seq now : Int) (b : Nat) (hl : Fine l) (H : St W S w (refF q l :: r)) :
    Calls Try.prog 45 #[.pointer (some ⟨q, 0, none⟩), .int .i64 seq, .int .i64 now] w (fun e w' => e = .returned (.bool (putOk l)) ∧ St W S w' (refF q (putU l b seq now) :: r)) := by
  obtain ⟨S1, h1, _, c⟩ := H.at 0 rfl
  rw [refF_put q l b 0]
  exact (rput_any q l seq now w S1 h1 hl.1).mono fun e w' ⟨he, h2⟩ => ⟨he, c _ _ h2⟩
theorem took_st (seq now : Int) (R : List Run) (n cap : Nat) (hn : R.length = n) (hn2 : n ≤ 1000) (ra : Option Addr) (hl : Fine l) (hR : ∀ w', Below W.heap.size W w' → Rd w' ra (runs R)) (H : St W none0 w (flightA f l :: r)) :
    Calls Try.prog 33 #[.pointer (some ⟨f, 0, none⟩), .int .i64 seq, .slice ra n cap, .int .i64 now] w (fun e w' => e = .returned (newsV (hearA (fun s => findV (eachL seq R) (ofC s)) (timeV now) l)) ∧ St W none0 w' (flightA f (leftU (hearA (fun s => findV (eachL seq R) (ofC s)) (timeV now) l).ahead) :: r)) := by
  obtain ⟨S1, h1, hS, c⟩ := H.at 0 rfl
  exact (took_any f l (by have := hl.1; omega) hl.2 seq now R n cap hn hn2 ra w S1 (fun w' ho => hR w' (Only.below (H.only.trans ho fun b hb => hS b hb))) h1).mono fun e w' ⟨he, h2⟩ => ⟨he, c _ _ h2⟩
theorem rtook_st (seq now : Int) (R : List Run) (n cap : Nat) (hn : R.length = n) (hn2 : n ≤ 1000) (ra : Option Addr) (hl : Fine l) (hR : ∀ w', Below W.heap.size W w' → Rd w' ra (runs R)) (H : St W none0 w (refF q l :: r)) :
    Calls Try.prog 47 #[.pointer (some ⟨q, 0, none⟩), .int .i64 seq, .slice ra n cap, .int .i64 now] w (fun e w' => e = .returned (newsV (hearA (fun s => findV (eachL seq R) (ofC s)) (timeV now) l)) ∧ St W none0 w' (refF q (leftU (hearA (fun s => findV (eachL seq R) (ofC s)) (timeV now) l).ahead) :: r)) := by
  obtain ⟨S1, h1, hS, c⟩ := H.at 0 rfl
  exact (rtook_any q l (by have := hl.1; omega) hl.2 seq now R n cap hn hn2 ra w S1 (fun w' ho => hR w' (Only.below (H.only.trans ho fun b hb => hS b hb))) h1).mono fun e w' ⟨he, h2⟩ => ⟨he, c _ _ h2⟩
theorem drop_st (hl : Fine l) (H : St W S w (flightA f l :: r)) :
    Calls Try.prog 34 #[.pointer (some ⟨f, 0, none⟩)] w (fun e w' => e = .returned (.int .i64 l.length) ∧ St W S w' (flightA f [] :: r)) := by
  obtain ⟨S1, h1, _, c⟩ := H.at 0 rfl
  exact (drop_any f l (by have := hl.1; omega) w S1 h1).mono fun e w' ⟨he, h2⟩ => ⟨he, c _ _ h2⟩
theorem pipe_st (H : St W S w (flightA f l :: r)) : Calls Try.prog 35 #[.pointer (some ⟨f, 0, none⟩)] w (Ret w (.int .i64 l.length)) := by
  obtain ⟨S1, h1, _, c⟩ := H.at 0 rfl
  exact pipe_any f l w S1 h1
/-- When the oldest one was sent. -/
def oldV (l : List Un) : Value := .tuple #[.int .i64 ((l.head?.map Un.at_).getD 0), .bool (!l.isEmpty)]
theorem old_st (H : St W S w (flightA f l :: r)) : Calls Try.prog 48 #[.pointer (some ⟨f, 0, none⟩)] w (Ret w (oldV l)) := by
  obtain ⟨S1, h1, _, c⟩ := H.at 0 rfl
  cases l with
  | nil => exact old_nil f w S1 h1
  | cons u l => exact old_cons f u l w S1 h1
end
end Go.Proofs.Ytljgmephajocaaa.Flight
