/- The walks of the statements QueueNumbers and QueueDoes. -/
import Derived.Test.YthodfihdmhkgeaaQueue
import Derived.Test.YthodfihdmhkgeaaChan
namespace Go.Proofs.Ythodfihdmhkgeaa.Queue
set_option linter.unusedSimpArgs false
set_option linter.unusedVariables false
open Go Go.RowKit Go.Proofs.Ythodfihdmhkgeaa Go.Proofs.Ythodfihdmhkgeaa.DockDg
open Go.Proofs.Ythodfihdmhkgeaa.Chan (eqD eql_dg neq_dg)
attribute [local irreducible] Calls

theorem eqD_self (a : Int) (s : ByteArray) : eqD a s a s = true := by simp [eqD]
section
variable {q : Nat} {last : Int} {l : List El} {w W : World} {S0 : Nat → Prop} {r : List Asn}
theorem len_st (H : St W S0 w (queueA q last l :: r)) : Calls Try.prog 51 #[.pointer (some ⟨q, 0, none⟩)] w (Ret w (.int .i64 l.length)) := by
  obtain ⟨_, hS⟩ := H.held 0 rfl; exact len_any hS
theorem last_st (H : St W S0 w (queueA q last l :: r)) : Calls Try.prog 64 #[.pointer (some ⟨q, 0, none⟩)] w (Ret w (.int .i64 last)) := by
  obtain ⟨_, hS⟩ := H.held 0 rfl; exact last_any hS
theorem first_nil_st (H : St W S0 w (queueA q last [] :: r)) : Calls Try.prog 49 #[.pointer (some ⟨q, 0, none⟩)] w (Ret w (.tuple #[.agg #[.int .i64 0, .string ByteArray.empty], .bool false])) := by
  obtain ⟨_, hS⟩ := H.held 0 rfl; exact first_nil hS
theorem first_cons_st {x : El} (H : St W S0 w (queueA q last (x :: l) :: r)) : Calls Try.prog 49 #[.pointer (some ⟨q, 0, none⟩)] w (Ret w (.tuple #[.agg #[.int .i64 x.1, .string x.2], .bool true])) := by
  obtain ⟨_, hS⟩ := H.held 0 rfl; exact first_cons x hS
theorem put_ok_st (s : ByteArray) (hs : s.size ≤ 200) (hl : l.length < 32) (h0 : 0 ≤ last) (h1 : last ≤ 1000000) (H : St W S0 w (queueA q last l :: r)) :
    Calls Try.prog 48 #[.pointer (some ⟨q, 0, none⟩), .string s] w (Fin W S0 (.tuple #[.int .i64 (last + 1), .int .i64 0]) (queueA q (last + 1) (l ++ [(last + 1, s)]) :: r)) :=
  Calls.st_at 0 H rfl fun _ hS => put_ok s hs hl h0 h1 hS
theorem sent_cons_st {x : El} (H : St W S0 w (queueA q last (x :: l) :: r)) : Calls Try.prog 50 #[.pointer (some ⟨q, 0, none⟩)] w (Fin W S0 (.bool true) (queueA q last l :: r)) :=
  Calls.st_at 0 H rfl fun _ hS => sent_cons x hS
theorem sent_nil_st (H : St W S0 w (queueA q last [] :: r)) : Calls Try.prog 50 #[.pointer (some ⟨q, 0, none⟩)] w (Fin W S0 (.bool false) (queueA q last [] :: r)) :=
  Calls.st_at 0 H rfl fun _ hS => sent_nil hS
theorem clear_st (hl : l.length ≤ 100000) (H : St W S0 w (queueA q last l :: r)) : Calls Try.prog 63 #[.pointer (some ⟨q, 0, none⟩)] w (Fin W S0 (.int .i64 l.length) (queueA q last [] :: r)) :=
  Calls.st_at 0 H rfl fun _ hS => clear_any l.length l rfl _ _ hS hl
theorem put_long_st (s : ByteArray) (hs : 200 < s.size) (hs' : s.size ≤ maxLen) (H : St W S0 w (queueA q last l :: r)) :
    Calls Try.prog 48 #[.pointer (some ⟨q, 0, none⟩), .string s] w (Fin W S0 (.tuple #[.int .i64 0, .int .i64 11]) (queueA q last l :: r)) :=
  Calls.st_at 0 H rfl fun _ hS => put_long s hs hs' hS
theorem put_full_st (s : ByteArray) (hs : s.size ≤ 200) (hl : 32 ≤ l.length) (H : St W S0 w (queueA q last l :: r)) :
    Calls Try.prog 48 #[.pointer (some ⟨q, 0, none⟩), .string s] w (Fin W S0 (.tuple #[.int .i64 0, .int .i64 6]) (queueA q last l :: r)) :=
  Calls.st_at 0 H rfl fun _ hS => put_full s hs hl hS
end

set_option maxRecDepth 100000 in
set_option maxHeartbeats 800000 in
theorem works_law (w : World) : Calls Try.prog 46 #[] w (Ret w (.bool true)) := by
  have ex : eqD 1 ⟨#[120]⟩ 1 ⟨#[120]⟩ = true := eqD_self _ _
  go_enter Try.func46, Try.ntmps46
  go_wp2_with fail
  refine Calls.mono (new_any _) ?_
  rintro e w1 ⟨q, rfl, H1⟩
  have P1 := put_ok_st (s := ⟨#[120]⟩) (by decide) (by decide) (by decide) (by decide) H1
  clear H1
  go_wp2_with fail
  refine Calls.mono P1 ?_
  rintro e w2 ⟨rfl, H2⟩
  have P2 := put_ok_st (s := ⟨#[121]⟩) (by decide) (by decide) (by decide) (by decide) H2
  clear P1 H2
  go_wp2_with fail
  refine Calls.mono P2 ?_
  rintro e w3 ⟨rfl, H3⟩
  have H3' : St w none0 w3 [queueA q 2 ((1, ⟨#[120]⟩) :: [(2, ⟨#[121]⟩)])] := H3
  have F := first_cons_st H3'
  clear P2 H3
  replace H3' := Lib.hid H3'
  go_wp2_with fail
  refine Calls.mono F ?_
  rintro e w4 ⟨rfl, hb4⟩
  have H4 := H3'.out.thru hb4
  have L4 := len_st (H4.skip (.cells #[.int .i64 1, .string ⟨#[120]⟩] 32))
  have H5 := H4.skip (.cells #[.int .i64 1, .string ⟨#[120]⟩] 32)
  clear F H4 H3'
  replace H5 := Lib.hid H5
  go_wp2_with fail
  refine Calls.mono L4 ?_
  rintro e w5 ⟨rfl, hb5⟩
  have H6 := H5.out.thru hb5
  go_wp2_with fail
  go_ret
  exact H6.ret rfl

set_option maxRecDepth 100000 in
set_option maxHeartbeats 800000 in
theorem numbers_walk (a0 : Int) (w0 : (Lit.int .u16 a0).wf = true) (w : World) : Calls Try.prog 11 #[.int .u16 a0] w (Ret w (.bool true)) := by
  have hb0 := bounds_u16 w0
  have hx : ∀ k : Int, eqD k ⟨#[120]⟩ k ⟨#[120]⟩ = true := fun k => eqD_self _ _
  obtain ⟨n, hn, hn2⟩ : ∃ n : Nat, a0 % 2000 = (n : Int) ∧ n < 2000 := ⟨(a0 % 2000).toNat, by omega, by omega⟩
  clear hx
  replace hn := Lib.hid hn
  go_enter Try.func11, Try.ntmps11
  go_wp2_with fail
  refine Calls.mono (works_law _) ?_
  rintro e w1 ⟨rfl, hb1⟩
  have z1 := Below.size hb1; try simp only [World.size_alloc, World.size_setCell, World.size_drew] at z1
  go_wp2_with fail
  refine Calls.mono (new_any _) ?_
  rintro e w2 ⟨q, rfl, H2⟩
  have H2' : St w none0 w2 [queueA q 0 []] := ((St.zero w).thru hb1).add H2
  clear H2 hb1
  replace H2' := Lib.hid H2'
  go_wp2_with fail
  go_loopg [4, 5, 6, 7, 8] n (fun g i _ _ _ _ wr => ∃ j : Nat, j ≤ n ∧ g = n - j ∧ i = .int .i64 ((j : Int) + 1) ∧ St w none0 wr [queueA q j []])
  case atStart => exact ⟨0, by omega, by omega, rfl, H2'.out⟩
  case round =>
    obtain ⟨j, hj, hg, rfl, hst⟩ := hrel
    by_cases hlt : j < n
    · have k1 : decide ((j : Int) + 1 ≤ a0 % 2000) = true := decide_eq_true (by rw [hn.out]; omega)
      have P1 := put_ok_st (s := ⟨#[120]⟩) (by decide) (by decide) (by omega) (by omega) hst
      clear hst
      go_wp2_with fail
      refine Calls.mono P1 ?_
      rintro e w3 ⟨rfl, H3⟩
      have H3' : St w none0 w3 [queueA q ((j : Int) + 1) (((j : Int) + 1, ⟨#[120]⟩) :: [])] := H3
      have F := first_cons_st H3'
      clear P1 H3
      replace H3' := Lib.hid H3'
      go_wp2_with fail
      refine Calls.mono F ?_
      rintro e w4 ⟨rfl, hb4⟩
      have H4 := (H3'.out.thru hb4).skip (.cells #[.int .i64 ((j : Int) + 1), .string ⟨#[120]⟩] 32)
      have S4 := sent_cons_st H4
      clear F H3' H4
      go_wp2_with fail
      refine Calls.mono S4 ?_
      rintro e w5 ⟨rfl, H5⟩
      replace H5 := Lib.hid H5
      clear S4
      go_wp2_with fail
      go_roundg (n - (j + 1))
      case measure => omega
      case rel => exact ⟨j + 1, by omega, rfl, by go_num, H5.out⟩
    · have k1 : decide ((j : Int) + 1 ≤ a0 % 2000) = false := decide_eq_false (by rw [hn.out]; omega)
      have L := len_st hst
      replace hst := Lib.hid hst
      go_wp2_with fail
      refine Calls.mono L ?_
      rintro e w3 ⟨rfl, hb3⟩
      have H3 := hst.out.thru hb3
      go_wp2_with fail
      go_ret
      exact H3.ret rfl
end Go.Proofs.Ythodfihdmhkgeaa.Queue
