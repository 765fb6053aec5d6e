/- The walk of mpopt.Say. -/
import Derived.Test.YtpajedpkdfacoaaMpFind
namespace Go.Proofs.Ytpajedpkdfacoaa.Mp
set_option linter.unusedSimpArgs false
set_option linter.unusedVariables false
open Go Go.RowKit Go.Shelf Go.Proofs.Ytpajedpkdfacoaa Go.Proofs.Ytpajedpkdfacoaa.Octets
open Go.Proofs.Ytpajedpkdfacoaa.Opts (El enc encs els_at encs_len encs_one encs_app Few checkL)
attribute [local irreducible] Calls

theorem el_info : (Try.prog.info? 26).map (fun i => (i.zero, i.size, i.bytes)) = some (some (.agg #[.int .i64 0, .string ⟨#[]⟩]), 2, 24) := by kernel_rfl
set_option maxRecDepth 100000 in
theorem clone_any (l : List El) (a : Option Addr) (n cap : Nat) (hl : l.length = n) (w : World) (h : Rd w a (encs l)) (h0 : a = none → n = 0) (hn : n ≤ 100000) :
    Calls Try.prog 45 #[.slice a n cap] w (fun e w' => ∃ v, e = .returned v ∧ St w none0 w' [rowA 2 v n (encs l)]) := by
  obtain ⟨i0, hi, hz, hz1, hz2⟩ := info_parts el_info
  have hsn := run_eql_snil (P := Try.prog) 34 _ Try.underlying34
  cases a with
  | none =>
    obtain rfl := h0 rfl
    obtain rfl : l = [] := List.eq_nil_of_length_eq_zero hl
    clear h h0
    go_enter Try.func45, Try.ntmps45
    go_wp2_with fail
    go_ret
    exact ⟨_, rfl, (St.zero w).row_nil⟩
  | some a =>
    have E1 := (St.zero w).alloc [] 26
    have E2 := E1.row_empty (size := 2) 0 rfl
    have hr := h.of_st E2
    clear h E1
    replace E2 := Lib.hid E2; replace hr := Lib.hid hr; replace hl := Lib.hid hl
    go_enter Try.func45, Try.ntmps45
    go_wp2_with (at_builtin; (refine wpList_appRd rfl (.tmp 5) (.tmp 6) _ rfl 26 i0 _ 2 24 Try.underlying34 hi hz hz1 hz2 rfl (by omega) 0 _ 0 [] rfl E2.out rfl _ n cap (encs l) rfl (by rw [encs_len, hl.out]) hr.out (fun e => by cases e) (encs_one l) (by omega) (by omega) ?_; intro v5 w5 HA; replace HA := Lib.hid HA))
    go_ret
    exact ⟨_, rfl, by have := HA.out.drops 1; rwa [Nat.zero_add] at this⟩
/-- Options with some of several paths behind: as far as they can be put. -/
def putAll : List Mu → List El → List El × Int
  | [], out => (out, 0)
  | m :: t, out => if (putV m).2 = 0 then putAll t (out ++ [(putV m).1]) else ([], (putV m).2)
def sayV (l : List El) (more : List Mu) : List El × Int :=
  if (putAll more l).2 = 0 then (if checkL (putAll more l).1 = 0 then ((putAll more l).1, 0) else ([], checkL (putAll more l).1)) else ([], (putAll more l).2)
/-- What is put is not long, as far as it is put. -/
def fitM : List Mu → Prop
  | [] => True
  | m :: t => goodM m ∧ m.dat.size ≤ 600 ∧ ((putV m).2 = 0 → fitM t)
theorem putAll_cons (m : Mu) (t : List Mu) (out : List El) : putAll (m :: t) out = if (putV m).2 = 0 then putAll t (out ++ [(putV m).1]) else ([], (putV m).2) := rfl
theorem putAll_nil (out : List El) : putAll [] out = (out, 0) := rfl
theorem putV_size (m : Mu) (hd : m.dat.size ≤ 600) : (putV m).1.2.size ≤ 2000 ∧ isI64 (putV m).1.1 := by
  unfold putV
  cases hf : fieldsO m.kind with
  | none => exact ⟨show (ByteArray.mk #[]).size ≤ 2000 by decide, show isI64 0 by unfold isI64; decide⟩
  | some l =>
    simp only []
    split
    · refine ⟨?_, show isI64 46 by unfold isI64; decide⟩
      obtain ⟨h3, hok⟩ := fields_ok hf
      have h1 : ∀ (l : List Fd) (t : ByteArray), (∀ f ∈ l, okFd l f) → True := fun _ _ _ => trivial
      have key : ∀ (l2 : List Fd), (∀ f ∈ l2, f ∈ l) → ∀ t : ByteArray, (l2.foldl (putF m) t).size ≤ t.size + 606 * l2.length := by
        intro l2
        induction l2 with
        | nil => intro _ t; simp
        | cons f l2 ih =>
          intro hm t
          have e1 := putF_size m hd t l f (hok f (hm f (by simp)))
          have e2 := ih (fun g hg => hm g (by simp [hg])) (putF m t f)
          simp only [List.foldl_cons, List.length_cons]
          omega
      have := key l (fun _ h => h) (catB ⟨#[]⟩ (putB m.kind 1))
      rw [catB_size, putB_len] at this
      have h0 : (ByteArray.mk #[]).size = 0 := rfl
      show (textM m l).size ≤ 2000
      unfold textM
      omega
    · exact ⟨show (ByteArray.mk #[]).size ≤ 2000 by decide, show isI64 0 by unfold isI64; decide⟩
def SayS (R : List El × Int) (w : World) (e : Ending) (w' : World) : Prop := ∃ v, e = .returned (.tuple #[v, .int .i64 R.2]) ∧ St w none0 w' [rowA 2 v R.1.length (encs R.1)]
set_option maxRecDepth 100000 in
set_option maxHeartbeats 2000000 in
theorem say_any (l : List El) (a : Option Addr) (n cap : Nat) (hl : l.length = n) (hn : n ≤ 1000) (hf : ∀ x ∈ l, isI64 x.1 ∧ x.2.size ≤ 3000) (h0 : a = none → n = 0)
    (L : List Mu) (b : Option Addr) (k kc : Nat) (hL : L.length = k) (hk : k ≤ 1000) (hfit : fitM L) (w : World) (h : Rd w a (encs l)) (hb : Rd w b (encMs L)) :
    Calls Try.prog 18 #[.slice a n cap, .slice b k kc] w (SayS (sayV l L) w) := by
  obtain ⟨i0, hi, hz, hz1, hz2⟩ := info_parts el_info
  have PC := clone_any l a n cap hl w h h0 (by omega)
  obtain ⟨R, hR⟩ : ∃ R, R = sayV l L := ⟨_, rfl⟩
  rw [← hR]
  unfold sayV at hR
  clear h h0
  replace hR := Lib.hid hR; replace PC := Lib.hid PC; replace hb := Lib.hid hb; replace hL := Lib.hid hL; replace hl := Lib.hid hl; replace hf := Lib.hid hf; replace hfit := Lib.hid hfit
  go_enter Try.func18, Try.ntmps18
  go_wp2_with fail
  refine Calls.mono PC.out ?_
  rintro e w1 ⟨v, rfl, H1⟩
  clear PC
  obtain ⟨a1, c1, rfl, _⟩ := St.slice (by omega) 0 H1 rfl
  replace H1 := Lib.hid H1
  go_wp2_with fail
  go_loopg [6, 8, 9, 10, 16] k (fun g v6 _ _ _ i wr => ∃ (j : Nat) (o : List El) (a6 : Option Addr) (c6 : Nat), j ≤ k ∧ Hid (g = k - j) ∧ i = .int .i64 j ∧ o.length = n + j ∧ Hid (putAll L l = putAll (L.drop j) o) ∧ Hid (fitM (L.drop j)) ∧ Hid (∀ x ∈ o, isI64 x.1 ∧ x.2.size ≤ 3000) ∧ v6 = .slice a6 (n + j) c6 ∧ Hid (St w none0 wr [rowA 2 (.slice a6 (n + j) c6) (n + j) (encs o)]))
  case atStart => exact ⟨0, l, a1, c1, by omega, Lib.hid rfl, rfl, hl.out, Lib.hid rfl, hfit, hf, rfl, H1⟩
  case round =>
    obtain ⟨j, o, a6, c6, hj, hg, rfl, ho, hp, hfi, hfo, rfl, hst⟩ := hrel
    by_cases hlt : j < k
    · have hjL : j < L.length := by have := hL.out; omega
      obtain ⟨bb, off, rfl, hbb, hc⟩ := mus_at (hb.out.below hst.out.below) hL.out (by omega)
      obtain ⟨e0, e1, e2, e3, e4, e5, e6⟩ := hc j hjL
      have hdr : L.drop j = L[j] :: L.drop (j + 1) := List.drop_eq_getElem_cons hjL
      rw [hdr] at hp hfi
      obtain ⟨hgm, hd6, hfn⟩ := hfi.out
      have P := put_any L[j] hgm hd6
      obtain ⟨hs2, hs1⟩ := putV_size L[j] hd6
      have hpp := hp.out
      rw [putAll_cons] at hpp
      have H2 := hst.out.alloc (encM L[j]) 23
      clear hc hdr hp hfi hgm hd6 H1
      generalize putV L[j] = q at *
      obtain ⟨⟨o1, o2⟩, e⟩ := q
      generalize L[j] = m at *
      obtain ⟨m0, m1, m2, m3, m4, m5, m6⟩ := m
      simp only [encM] at P H2 e0 e1 e2 e3 e4 e5 e6 hs1 hs2 hpp hfn
      obtain ⟨z2, k2, f2⟩ := H2.box 0 rfl
      by_cases he : e = 0
      · subst he
        rw [if_pos rfl] at hpp
        replace hfn := hfn rfl
        replace P := Lib.hid P; replace H2 := Lib.hid H2; replace hpp := Lib.hid hpp; replace hfn := Lib.hid hfn; replace hs1 := Lib.hid hs1; replace hs2 := Lib.hid hs2; replace hst := Lib.hid hst
        go_wp2_with fail
        refine Calls.mono (P.out _) ?_
        rintro e w5 ⟨rfl, hb5⟩
        have H3 := ((H2.out.thru hb5).alloc [.int .i64 o1, .string o2] 26)
        obtain ⟨z3, k3, f3⟩ := H3.box 0 rfl
        clear P k2 f2 hst H2
        replace H3 := Lib.hid H3
        go_wp2_with (at_builtin; (refine wpList_appS rfl (.tmp 28) (.tmp 30) _ rfl 26 i0 _ 2 24 Try.underlying34 hi hz hz1 hz2 rfl (by omega) 2 _ (n + j) _ rfl H3.out rfl 1 1 [.int .i64 o1, .string o2] rfl rfl (by simp [Value.oneCell']) (by omega) (by omega) ?_; intro wv5 w5 H6; obtain ⟨a7, c7, rfl, _⟩ := St.slice (by omega) 0 H6 rfl; replace H6 := Lib.hid H6))
        go_roundg (k - (j + 1))
        case measure => have := hg.out; omega
        case rel =>
          refine ⟨j + 1, o ++ [(o1, o2)], a7, c7, by omega, Lib.hid rfl, by go_num, by simp [ho]; omega, hpp, hfn, ?_, rfl, ?_⟩
          · intro x hx
            rcases List.mem_append.1 hx with hx | hx
            · exact hfo.out x hx
            · obtain rfl : x = (o1, o2) := by simpa using hx
              exact ⟨hs1.out, by have := hs2.out; simp only at this ⊢; omega⟩
          · have := H6.out.drops 1
            rw [show n + j + 1 = n + (j + 1) by omega] at this
            rw [← encs_app]
            exact Lib.hid this
      · have q0 : (e != 0) = true := by simpa using he
        rw [if_neg he] at hpp
        have hRR : R = ([], e) := by
          rw [hR.out, hpp, if_neg he]
        clear hR hpp hfn
        subst hRR
        replace P := Lib.hid P; replace H2 := Lib.hid H2; replace he := Lib.hid he; replace hst := Lib.hid hst
        go_wp2_with fail
        refine Calls.mono (P.out _) ?_
        rintro e w5 ⟨rfl, hb5⟩
        have H3 := ((H2.out.thru hb5).alloc [.int .i64 o1, .string o2] 26)
        clear P k2 f2 hst H2
        replace H3 := Lib.hid H3
        go_wp2_with fail
        go_ret2
        exact ⟨_, rfl, ((H3.out.drops 0).row_nil (size := 2))⟩
    · obtain rfl : j = k := by omega
      have hdr : L.drop j = [] := List.drop_eq_nil_of_le (by have := hL.out; omega)
      rw [hdr] at hp
      have hpp := hp.out
      rw [putAll_nil] at hpp
      rw [hpp] at hR
      have hRR := hR.out
      simp only [if_true] at hRR
      have R6 := St.rd (by omega) 0 hst.out rfl
      have P := Go.Proofs.Ytpajedpkdfacoaa.Opts.check_any o (n + j) ho ⟨by omega, hfo.out⟩ a6 c6 _ R6
      obtain ⟨ck, hck⟩ : ∃ ck, checkL o = ck := ⟨_, rfl⟩
      rw [hck] at P hRR
      clear hck hR hpp hp hdr R6 H1
      by_cases hc0 : ck = 0
      · subst hc0
        simp only [if_true] at hRR
        subst hRR
        replace P := Lib.hid P
        go_wp2_with fail
        refine Calls.mono P.out ?_
        rintro e w5 ⟨rfl, hb5⟩
        have H3 := hst.out.thru hb5
        clear P
        replace H3 := Lib.hid H3
        go_wp2_with fail
        go_ret2
        exact ⟨_, rfl, by rw [ho]; exact H3.out⟩
      · have q0 : (ck != 0) = true := by simpa using hc0
        rw [if_neg hc0] at hRR
        subst hRR
        replace P := Lib.hid P; replace hc0 := Lib.hid hc0
        go_wp2_with fail
        refine Calls.mono P.out ?_
        rintro e w5 ⟨rfl, hb5⟩
        have H3 := hst.out.thru hb5
        clear P
        replace H3 := Lib.hid H3
        go_wp2_with fail
        go_ret2
        exact ⟨_, rfl, ((H3.out.drops 0).row_nil (size := 2))⟩
end Go.Proofs.Ytpajedpkdfacoaa.Mp
