/- The walks of the fields of an option of several paths: check, put, read. -/
import Derived.Test.YtpajedpkdfacoaaMpOf
import Derived.Test.YtpajedpkdfacoaaOctetsRead
import Derived.Test.YtpajedpkdfacoaaMadeT
import Derived.Test.YtpajedpkdfacoaaRest
import Derived.WalkSpells
import Derived.Shelf.Abstract
namespace Go.Proofs.Ytpajedpkdfacoaa.Mp
set_option linter.unusedSimpArgs false
set_option linter.unusedVariables false
open Go Go.RowKit Go.Shelf Go.Proofs.Ytpajedpkdfacoaa Go.Proofs.Ytpajedpkdfacoaa.Octets
attribute [local irreducible] Calls

/-- A call that turns one block of cells. -/
theorem St.ofC {W w w' : World} {S0 : Nat → Prop} {r : List Asn} {c : Nat} {vs vs' : List Value} {v : Value} {e : Ending} (H : St W S0 w (cellA c vs :: r)) (h : RetC w c v vs' e w') : e = .returned v ∧ St W S0 w' (cellA c vs' :: r) := by
  obtain ⟨S1, h1, _, back⟩ := H.at 0 rfl
  obtain ⟨h2, h3, h4⟩ := h
  refine ⟨h2, back w' [cellA c vs'] ⟨Only.of_grown h3 fun k e => by cases e; exact (h1.2 _).2 rfl, S1, Sep.one ⟨h4, h1.2⟩, fun b hb => .inl hb⟩⟩
theorem at_any (i : Nat) (hi : 1 ≤ i ∧ i ≤ 5) (b : Nat) (w : World) (z : b < w.heap.size) : Calls Try.prog (fnM i) #[.pointer (some ⟨b, 0, none⟩)] w (Ret w (.pointer (some ⟨b, i, none⟩))) := by
  obtain ⟨h1, h2⟩ := hi
  have h : i = 1 ∨ i = 2 ∨ i = 3 ∨ i = 4 ∨ i = 5 := by omega
  rcases h with rfl | rfl | rfl | rfl | rfl
  · show Calls Try.prog 72 #[.pointer (some ⟨b, 0, none⟩)] w _
    go_enter Try.func72, Try.ntmps72
    go_wp2_with fail
    go_ret
    exact Ret.mk rfl (by repeat (first | with_reducible exact Below.refl _ _ | (with_reducible refine Below.al ?_) | (with_reducible refine Below.drew ?_) | (with_reducible refine Below.set ?_ (by first | (simp; done) | omega | (simp; omega))) | (with_reducible refine Below.thru ?_ (by assumption)) | (with_reducible refine Below.chg ?_ (by assumption) (by first | (simp; done) | omega | (simp; omega)))))
  · show Calls Try.prog 75 #[.pointer (some ⟨b, 0, none⟩)] w _
    go_enter Try.func75, Try.ntmps75
    go_wp2_with fail
    go_ret
    exact Ret.mk rfl (by repeat (first | with_reducible exact Below.refl _ _ | (with_reducible refine Below.al ?_) | (with_reducible refine Below.drew ?_) | (with_reducible refine Below.set ?_ (by first | (simp; done) | omega | (simp; omega))) | (with_reducible refine Below.thru ?_ (by assumption)) | (with_reducible refine Below.chg ?_ (by assumption) (by first | (simp; done) | omega | (simp; omega)))))
  · show Calls Try.prog 71 #[.pointer (some ⟨b, 0, none⟩)] w _
    go_enter Try.func71, Try.ntmps71
    go_wp2_with fail
    go_ret
    exact Ret.mk rfl (by repeat (first | with_reducible exact Below.refl _ _ | (with_reducible refine Below.al ?_) | (with_reducible refine Below.drew ?_) | (with_reducible refine Below.set ?_ (by first | (simp; done) | omega | (simp; omega))) | (with_reducible refine Below.thru ?_ (by assumption)) | (with_reducible refine Below.chg ?_ (by assumption) (by first | (simp; done) | omega | (simp; omega)))))
  · show Calls Try.prog 73 #[.pointer (some ⟨b, 0, none⟩)] w _
    go_enter Try.func73, Try.ntmps73
    go_wp2_with fail
    go_ret
    exact Ret.mk rfl (by repeat (first | with_reducible exact Below.refl _ _ | (with_reducible refine Below.al ?_) | (with_reducible refine Below.drew ?_) | (with_reducible refine Below.set ?_ (by first | (simp; done) | omega | (simp; omega))) | (with_reducible refine Below.thru ?_ (by assumption)) | (with_reducible refine Below.chg ?_ (by assumption) (by first | (simp; done) | omega | (simp; omega)))))
  · show Calls Try.prog 74 #[.pointer (some ⟨b, 0, none⟩)] w _
    go_enter Try.func74, Try.ntmps74
    go_wp2_with fail
    go_ret
    exact Ret.mk rfl (by repeat (first | with_reducible exact Below.refl _ _ | (with_reducible refine Below.al ?_) | (with_reducible refine Below.drew ?_) | (with_reducible refine Below.set ?_ (by first | (simp; done) | omega | (simp; omega))) | (with_reducible refine Below.thru ?_ (by assumption)) | (with_reducible refine Below.chg ?_ (by assumption) (by first | (simp; done) | omega | (simp; omega)))))
theorem fn_enters (i : Nat) (hi : 1 ≤ i ∧ i ≤ 5) : ∀ args w, (callFunc (fnM i) args).run Try.prog w = .ok (.enter (fnM i) args) w := by
  obtain ⟨h1, h2⟩ := hi
  have h : i = 1 ∨ i = 2 ∨ i = 3 ∨ i = 4 ∨ i = 5 := by omega
  rcases h with rfl | rfl | rfl | rfl | rfl
  · exact enters_of Try.func72 (by kernel_rfl) rfl
  · exact enters_of Try.func75 (by kernel_rfl) rfl
  · exact enters_of Try.func71 (by kernel_rfl) rfl
  · exact enters_of Try.func73 (by kernel_rfl) rfl
  · exact enters_of Try.func74 (by kernel_rfl) rfl
theorem encM_at (m : Mu) (i : Nat) (hi : 1 ≤ i ∧ i ≤ 5) : (encM m)[i]? = some (.int .i64 (getM m i)) := by
  obtain ⟨h1, h2⟩ := hi
  have h : i = 1 ∨ i = 2 ∨ i = 3 ∨ i = 4 ∨ i = 5 := by omega
  rcases h with rfl | rfl | rfl | rfl | rfl <;> rfl
theorem ncheck_any (m : Mu) (i s : Nat) (hi : 1 ≤ i ∧ i ≤ 5) (hs : 1 ≤ s ∧ s ≤ 6) (w : World) :
    Calls Try.prog 165 #[.agg #[.func (.func (fnM i)) #[] #[], .int .i64 s], .agg (encM m).toArray] w (Ret w (.int .i64 (chkF m (.num i s)))) := by
  have hG := fn_enters i hi
  have H := ((St.zero w).alloc [.func (.func (fnM i)) #[] #[], .int .i64 s] 124).alloc (encM m) 23
  simp only [World.size_alloc] at H
  obtain ⟨z, c, f⟩ := H.box 0 rfl
  have P := at_any i hi _ _ z
  have hci := encM_at m i hi
  unfold chkF
  obtain ⟨kind, addr, prio, num, token, nonce, dat⟩ := m
  unfold encM at *
  simp only [] at *
  generalize getM ⟨kind, addr, prio, num, token, nonce, dat⟩ i = n at *
  have hs8 : 0 ≤ (8 : Int) * s ∧ (8 : Int) * s ≤ 64 := by omega
  have ht : ((8 : Int) * s).toNat = 8 * s := by omega
  clear c
  replace hci := Lib.hid hci
  by_cases hn : n < 0
  · have q : decide (n < 0) = true := decide_eq_true hn
    rw [if_pos (.inl hn)]
    replace H := Lib.hid H; replace P := Lib.hid P; replace hs := Lib.hid hs; replace hi := Lib.hid hi
    go_enter Try.func165, Try.ntmps165
    go_wp2_with fail
    refine Calls.mono P.out ?_
    rintro e w1 ⟨rfl, hb1⟩
    have H1 := H.out.thru hb1
    obtain ⟨z1, c1, f1⟩ := H1.box 0 rfl
    obtain ⟨z2, c2, f2⟩ := H1.box 1 rfl
    have ci1 := (c1 i).trans hci.out
    clear c1 P H
    replace H1 := Lib.hid H1
    go_wp2_with fail
    go_ret
    exact H1.out.ret rfl
  · have q : decide (n < 0) = false := decide_eq_false hn
    by_cases h0 : n / 2 ^ (8 * s) = 0
    · have q2 : (n / 2 ^ (8 * s) != 0) = false := by simpa using h0
      rw [if_neg (by rintro (h | h); exact hn h; exact h h0)]
      replace h0 := Lib.hid h0
      replace H := Lib.hid H; replace P := Lib.hid P; replace hs := Lib.hid hs; replace hi := Lib.hid hi
      go_enter Try.func165, Try.ntmps165
      go_wp2_with fail
      refine Calls.mono P.out ?_
      rintro e w1 ⟨rfl, hb1⟩
      have H1 := H.out.thru hb1
      obtain ⟨z1, c1, f1⟩ := H1.box 0 rfl
      obtain ⟨z2, c2, f2⟩ := H1.box 1 rfl
      have ci1 := (c1 i).trans hci.out
      clear c1 P H
      replace H1 := Lib.hid H1
      go_wp2_with fail
      go_ret
      exact H1.out.ret rfl
    · have q2 : (n / 2 ^ (8 * s) != 0) = true := by simpa using h0
      rw [if_pos (.inr h0)]
      replace h0 := Lib.hid h0
      replace H := Lib.hid H; replace P := Lib.hid P; replace hs := Lib.hid hs; replace hi := Lib.hid hi
      go_enter Try.func165, Try.ntmps165
      go_wp2_with fail
      refine Calls.mono P.out ?_
      rintro e w1 ⟨rfl, hb1⟩
      have H1 := H.out.thru hb1
      obtain ⟨z1, c1, f1⟩ := H1.box 0 rfl
      obtain ⟨z2, c2, f2⟩ := H1.box 1 rfl
      have ci1 := (c1 i).trans hci.out
      clear c1 P H
      replace H1 := Lib.hid H1
      go_wp2_with fail
      go_ret
      exact H1.out.ret rfl
/-- Bytes behind bytes. -/
def catB (t : ByteArray) (l : List UInt8) : ByteArray := ⟨(t.data.toList ++ l).toArray⟩
theorem nput_any (m : Mu) (i s : Nat) (hi : 1 ≤ i ∧ i ≤ 5) (hs : 1 ≤ s ∧ s ≤ 6) (t : ByteArray) (ht : t.size ≤ 900000000) (hg : isI64 (getM m i)) (w : World) :
    Calls Try.prog 166 #[.agg #[.func (.func (fnM i)) #[] #[], .int .i64 s], .string t, .agg (encM m).toArray] w (Ret w (.string (catB t (putB (getM m i) s)))) := by
  have hG := fn_enters i hi
  have H := ((St.zero w).alloc [.func (.func (fnM i)) #[] #[], .int .i64 s] 124).alloc (encM m) 23
  simp only [World.size_alloc] at H
  obtain ⟨z, c, f⟩ := H.box 0 rfl
  obtain ⟨z2, c2, f2⟩ := H.box 1 rfl
  have hci := (c i).trans (encM_at m i hi)
  have P := fun (w' : World) (h : w.heap.size + 1 < w'.heap.size) => at_any i hi (w.heap.size + 1) w' h
  have P2 := fun (w' : World) => put_int t (getM m i) s w' ht (by omega) hg
  rw [show (min (s : Int) 8).toNat = s by omega] at P2
  unfold catB
  obtain ⟨kind, addr, prio, num, token, nonce, dat⟩ := m
  unfold encM at *
  simp only [] at *
  generalize getM ⟨kind, addr, prio, num, token, nonce, dat⟩ i = n at *
  clear c
  replace H := Lib.hid H; replace P := Lib.hid P; replace P2 := Lib.hid P2; replace hs := Lib.hid hs; replace hi := Lib.hid hi; replace hg := Lib.hid hg
  go_enter Try.func166, Try.ntmps166
  go_wp2_with fail
  refine wp_region_near (by kernel_rfl) (by kernel_rfl) ?_
  intro hs
  repeat (go_big_quiet_step ((first | (go_at_call 30; exact Calls.near (by simp) (P2.out _)) | (exact Calls.near (by simp) (P.out _ (Nat.lt_of_lt_of_le z (Near.near _).size))))))
  refine wpQuiet_nil ?_
  clear hs
  intro w3 hb3
  have H3 := H.out.thru hb3
  clear H P P2
  replace H3 := Lib.hid H3
  go_wp2_with fail
  go_ret
  exact H3.out.ret rfl
theorem bput_any (m : Mu) (a : Option Addr) (n c : Nat) (t : ByteArray) (ht : t.size ≤ 900000000) (hd : m.dat.size ≤ 900000000) (w : World) :
    Calls Try.prog 169 #[.agg #[.slice a n c], .string t, .agg (encM m).toArray] w (Ret w (.string (t ++ m.dat))) := by
  have H := ((St.zero w).alloc [.slice a n c] 126).alloc (encM m) 23
  simp only [World.size_alloc] at H
  obtain ⟨kind, addr, prio, num, token, nonce, dat⟩ := m
  unfold encM at *
  simp only [] at *
  replace H := Lib.hid H
  go_enter Try.func169, Try.ntmps169
  go_wp2_with fail
  go_ret
  exact H.out.ret rfl
end Go.Proofs.Ytpajedpkdfacoaa.Mp
