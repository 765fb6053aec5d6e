/- What holds of a control, whatever comes and goes: plain laws. -/
import Derived.Test.YtpajedpkdfacoaaCcTick
namespace Go.Proofs.Ytpajedpkdfacoaa.Ccid
set_option linter.unusedSimpArgs false
set_option linter.unusedVariables false
open Go Go.RowKit Go.Shelf Go.Proofs.Ytpajedpkdfacoaa Go.Proofs.Ytpajedpkdfacoaa.Circ
open Go.Proofs.Ytpajedpkdfacoaa.Flight (Un flightA putU putOk timeV OkU newsV newsL hearA leftU lostU newestU Inv hear_inv)
open Go.Proofs.Ytpajedpkdfacoaa.Heard (Hd heardA gotD restD moveH move_le)
open Go.Proofs.Ytpajedpkdfacoaa.Avec (Run runs findV eachL)
attribute [local irreducible] Calls

/-- Behind so many steps, at a time. -/
structure Good (N : Nat) (t : Int) (hd : Hd) (l : List Un) (x : Cc) : Prop where
  fine : Fine (1000 * N) x
  len : l.length ≤ 16
  ok : ∀ u ∈ l, OkU u
  came : hd.came.length ≤ 128
  u0 : 0 ≤ hd.untold
  u1 : hd.untold ≤ N
  k0 : 0 ≤ hd.ticks
  k1 : hd.ticks ≤ N
  f0 : 0 ≤ x.fails
  f1 : x.fails ≤ N
  s0 : 0 ≤ x.since
  s1 : x.since ≤ t
theorem Fine.mono {C D : Int} {x : Cc} (h : Fine C x) (hd : C ≤ D) : Fine D x := ⟨h.win, h.rn, h.rc0, Int.le_trans h.rc1 hd, h.ts0, h.ts1, h.tv0, h.tv1, h.tl⟩
theorem time_in {t : Int} (h0 : 0 ≤ t) (h1 : t ≤ 1000000) : timeV t = t := by unfold timeV; omega
theorem good_new (n : Int) : Good 0 0 ⟨ofC n, [true], 0, 0⟩ [] x0 :=
  ⟨⟨by unfold Cwnd.Win.Ok; decide, by decide, by decide, by decide, by decide, by decide, by decide, by decide, by decide⟩, by decide, fun u hu => (by cases hu), by simp, Int.le_refl 0, Int.le_refl 0, Int.le_refl 0, Int.le_refl 0, by decide, by decide, by decide, by decide⟩
theorem Good.later {N : Nat} {t t' : Int} {hd : Hd} {l : List Un} {x : Cc} (h : Good N t hd l x) (ht : t ≤ t') : Good (N + 1) t' hd l x :=
  ⟨h.fine.mono (by omega), h.len, h.ok, h.came, h.u0, by have := h.u1; omega, h.k0, by have := h.k1; omega, h.f0, by have := h.f1; omega, h.s0, by have := h.s1; omega⟩
theorem sentX_cases (l : List Un) (x : Cc) (now : Int) : sentX l x now = x ∨ sentX l x now = { x with since := timeV now } := by
  unfold sentX
  split
  · exact .inr rfl
  · exact .inl rfl
theorem good_sent {N : Nat} {t t' : Int} {hd : Hd} {l : List Un} {x : Cc} (h : Good N t hd l x) (ht : t ≤ t') (h0 : 0 ≤ t') (h1 : t' ≤ 1000000) (u : Nat) (seq : Int) : Good (N + 1) t' hd (sentL l x u seq t') (sentX l x t') := by
  have hl := h.later ht
  have hs := h.fine.win.2.1
  have hlen : (sentL l x u seq t').length ≤ 16 ∧ ∀ v ∈ sentL l x u seq t', OkU v := by
    unfold sentL putU
    have hle := h.len
    split
    · rename_i hlt
      rw [if_pos (by omega)]
      refine ⟨by rw [List.length_append]; simp only [List.length_cons, List.length_nil]; omega, fun v hv => ?_⟩
      rcases List.mem_append.1 hv with hv | hv
      · exact h.ok v hv
      · obtain rfl : v = _ := by simpa using hv
        have ht0 : 0 ≤ timeV t' ∧ timeV t' ≤ 1099511627776 := by unfold timeV; omega
        exact ⟨Int.le_refl 0, by show (0 : Int) ≤ 2; omega, ht0.1, ht0.2⟩
    · exact ⟨hle, h.ok⟩
  rcases sentX_cases l x t' with e | e
  · rw [e]
    exact ⟨hl.fine, hlen.1, hlen.2, hl.came, hl.u0, hl.u1, hl.k0, hl.k1, hl.f0, hl.f1, hl.s0, hl.s1⟩
  · rw [e]
    exact ⟨⟨hl.fine.win, hl.fine.rn, hl.fine.rc0, hl.fine.rc1, hl.fine.ts0, hl.fine.ts1, hl.fine.tv0, hl.fine.tv1, hl.fine.tl⟩, hlen.1, hlen.2, hl.came, hl.u0, hl.u1, hl.k0, hl.k1, hl.f0, hl.f1, by show 0 ≤ timeV t'; rw [time_in h0 h1]; exact h0, by show timeV t' ≤ t'; rw [time_in h0 h1]; exact Int.le_refl _⟩
theorem rest_bd (h : Hd) (s : Int) (dt : Bool) : (restD h s dt).1.came.length = h.came.length ∧ h.untold ≤ (restD h s dt).1.untold ∧ (restD h s dt).1.untold ≤ h.untold + 1 ∧ (restD h s dt).1.ticks = h.ticks := by
  unfold restD
  split
  · split
    · exact ⟨rfl, Int.le_refl _, (by show h.untold ≤ h.untold + 1; omega), rfl⟩
    · refine ⟨by simp, ?_, ?_, rfl⟩
      · show h.untold ≤ h.untold + _
        split <;> omega
      · show h.untold + _ ≤ h.untold + 1
        split <;> omega
  · exact ⟨rfl, Int.le_refl _, (by show h.untold ≤ h.untold + 1; omega), rfl⟩
theorem got_bd (h : Hd) (s : Int) (dt : Bool) (hc : h.came.length ≤ 128) : (gotD h s dt).1.came.length ≤ 128 ∧ h.untold ≤ (gotD h s dt).1.untold ∧ (gotD h s dt).1.untold ≤ h.untold + 1 ∧ (gotD h s dt).1.ticks = h.ticks := by
  unfold gotD
  split
  · have := rest_bd (moveH h s (farC s h.newest).toNat) s dt
    rw [this.1]
    exact ⟨move_le _ _ _, this.2.1, this.2.2.1, this.2.2.2⟩
  · have := rest_bd h s dt
    rw [this.1]
    exact ⟨hc, this.2⟩
theorem good_got {N : Nat} {t t' : Int} {hd : Hd} {l : List Un} {x : Cc} (h : Good N t hd l x) (ht : t ≤ t') (s : Int) (dt : Bool) : Good (N + 1) t' (gotD hd s dt).1 l x := by
  have hl := h.later ht
  obtain ⟨a, b, c, d⟩ := got_bd hd s dt h.came
  have := h.u0; have := h.u1
  exact ⟨hl.fine, hl.len, hl.ok, a, by omega, by omega, by rw [d]; exact hl.k0, by rw [d]; exact hl.k1, hl.f0, hl.f1, hl.s0, hl.s1⟩
theorem good_told {N : Nat} {t t' : Int} {hd : Hd} {l : List Un} {x : Cc} (h : Good N t hd l x) (ht : t ≤ t') : Good (N + 1) t' (toldH hd) l x := by
  have hl := h.later ht
  exact ⟨hl.fine, hl.len, hl.ok, hl.came, Int.le_refl 0, by show (0 : Int) ≤ _; omega, Int.le_refl 0, by show (0 : Int) ≤ _; omega, hl.f0, hl.f1, hl.s0, hl.s1⟩
theorem took_rest (l : List Un) (x : Cc) (A : Flight.Acc) (fr next now : Int) : ((tookX l x A fr next now).fails = x.fails ∨ (tookX l x A fr next now).fails = 0) ∧ ((tookX l x A fr next now).since = x.since ∨ (tookX l x A fr next now).since = timeV now) := by
  have hl : ∀ (y : Cc) (a b c d e : Int), (fitX (lossX y a b c d e)).fails = y.fails ∧ (fitX (lossX y a b c d e)).since = y.since := by
    intro y a b c d e
    unfold fitX lossX
    split
    · exact ⟨rfl, rfl⟩
    · split <;> exact ⟨rfl, rfl⟩
  unfold tookX
  rw [(hl _ _ _ _ _ _).1, (hl _ _ _ _ _ _).2]
  unfold ackedX cameX
  split
  · exact ⟨.inr rfl, .inr rfl⟩
  · exact ⟨.inl rfl, .inl rfl⟩
theorem good_took {N : Nat} {t t' : Int} {hd : Hd} {l : List Un} {x : Cc} (h : Good N t hd l x) (ht : t ≤ t') (h0 : 0 ≤ t') (h1 : t' ≤ 1000000) (fr next : Int) (R : List Run) : Good (N + 1) t' hd (leftU (heardU l fr R t').ahead) (tookX l x (heardU l fr R t') fr next t') := by
  have hl := h.later ht
  have hinv := hear_inv (st := fun s => findV (eachL fr R) (ofC s)) (t := timeV t') l h.ok
  change Inv (heardU l fr R t') l.length at hinv
  have hf := took_fine h.fine (by omega) l (heardU l fr R t') fr next t'
  obtain ⟨e1, e2⟩ := took_rest l x (heardU l fr R t') fr next t'
  generalize heardU l fr R t' = A at *
  have hle : (leftU A.ahead).length ≤ l.length := by
    have h1 : (leftU A.ahead).length ≤ A.ahead.length := List.length_filter_le _ _
    have h2 := hinv.all
    have h3 := hinv.ack
    omega
  refine ⟨hf.mono (by omega), by have := h.len; omega, fun u hu => ?_, hl.came, hl.u0, hl.u1, hl.k0, hl.k1, ?_, ?_, ?_, ?_⟩
  · unfold leftU at hu
    obtain ⟨hu1, hu2⟩ := List.mem_filter.1 hu
    have := hinv.un u hu1
    simp only [Bool.not_eq_true', decide_eq_false_iff_not] at hu2
    unfold OkU
    omega
  · rcases e1 with e | e <;> rw [e]
    · exact h.f0
    · omega
  · rcases e1 with e | e <;> rw [e]
    · exact hl.f1
    · omega
  · rcases e2 with e | e <;> rw [e]
    · exact h.s0
    · rw [time_in h0 h1]; exact h0
  · rcases e2 with e | e <;> rw [e]
    · exact hl.s1
    · rw [time_in h0 h1]; exact Int.le_refl _
theorem good_tick {N : Nat} {t t' : Int} {hd : Hd} {l : List Un} {x : Cc} (h : Good N t hd l x) (ht : t ≤ t') (h0 : 0 ≤ t') (h1 : t' ≤ 1000000) (next : Int) : Good (N + 1) t' (tickH hd) (tickL l x t') (tickX l x next t') := by
  have hl := h.later ht
  have hf := tick_fine hl.fine l next t'
  have hh : (tickH hd).came = hd.came ∧ (tickH hd).untold = hd.untold ∧ ((tickH hd).ticks = hd.ticks ∨ (tickH hd).ticks = hd.ticks + 1) := by
    unfold tickH
    split
    · exact ⟨rfl, rfl, .inr rfl⟩
    · exact ⟨rfl, rfl, .inl rfl⟩
  have hkk : 0 ≤ (tickH hd).ticks ∧ (tickH hd).ticks ≤ ((N + 1 : Nat) : Int) := by
    have := h.k0; have := h.k1
    rcases hh.2.2 with e | e <;> rw [e] <;> omega
  unfold tickL tickX at *
  cases hb : lateB l x t' with
  | true =>
    rw [hb] at hf
    simp only [if_true] at hf ⊢
    exact ⟨hf, by simp, fun u hu => (by cases hu), by rw [hh.1]; exact hl.came, by rw [hh.2.1]; exact hl.u0, by rw [hh.2.1]; exact hl.u1, hkk.1, hkk.2, by show 0 ≤ x.fails + 1; have := h.f0; omega, by show x.fails + 1 ≤ _; have := h.f1; omega, by show 0 ≤ timeV t'; rw [time_in h0 h1]; exact h0, by show timeV t' ≤ t'; rw [time_in h0 h1]; exact Int.le_refl _⟩
  | false =>
    rw [hb] at hf
    simp only [Bool.false_eq_true, if_false] at hf ⊢
    exact ⟨hf, hl.len, hl.ok, by rw [hh.1]; exact hl.came, by rw [hh.2.1]; exact hl.u0, by rw [hh.2.1]; exact hl.u1, hkk.1, hkk.2, hl.f0, hl.f1, hl.s0, hl.s1⟩
/-- Where none more is sent, and time goes on, none stays under way: behind so many ticks from a time on. -/
theorem tick_none {l : List Un} {x : Cc} {t' : Int} (h0 : 0 ≤ t') (h1 : t' ≤ 1000000) (h : x.since + 64 ≤ t') : tickL l x t' = [] := by
  unfold tickL lateB
  by_cases hl : l.length = 0
  · have := List.eq_nil_of_length_eq_zero hl
    subst this
    split <;> rfl
  · have hw := wait_bd x
    rw [decide_eq_false hl, time_in h0 h1, decide_eq_false (by omega)]
    rfl
theorem tick_keep {l : List Un} {x : Cc} {t' : Int} (next : Int) (h : lateB l x t' = false) : tickX l x next t' = x ∧ tickL l x t' = l := by
  unfold tickX tickL
  rw [h]
  exact ⟨rfl, rfl⟩
theorem tick_gone {l : List Un} {x : Cc} {t' : Int} (next : Int) (h : lateB l x t' = true) : tickL l x t' = [] := by
  unfold tickL
  rw [h]
  rfl
theorem tick_nil (x : Cc) (next t' : Int) : tickL [] x t' = [] ∧ tickX [] x next t' = x := by
  have : lateB [] x t' = false := by unfold lateB; simp
  unfold tickL tickX
  rw [this]
  exact ⟨rfl, rfl⟩
end Go.Proofs.Ytpajedpkdfacoaa.Ccid
