/- The walk of avec's answer Of. -/
import Derived.Test.YtfdijoaclpnccaaAvecRef
namespace Go.Proofs.Ytfdijoaclpnccaa.Avec
set_option linter.unusedSimpArgs false
set_option linter.unusedVariables false
open Go Go.RowKit Go.Proofs.Ytfdijoaclpnccaa
attribute [local irreducible] Calls

theorem known_pure (s : Int) (w : World) : Calls Try.prog 90 #[.int .i64 s] w (fun e w' => e = .returned (.bool (knownB s)) ∧ w' = w) := by
  by_cases h : s = 0 ∨ s = 1 ∨ s = 3
  · rcases h with rfl | rfl | rfl
    all_goals
      go_enter Try.func90, Try.ntmps90
      go_wp2_with fail
      go_ret
      exact ⟨rfl, rfl⟩
  · have hk : knownB s = false := by simp [knownB]; omega
    rw [hk]
    have q0 : (s == 0) = false := by simp; omega
    have q1 : (s == 1) = false := by simp; omega
    have q3 : (s == 3) = false := by simp; omega
    clear hk h
    go_enter Try.func90, Try.ntmps90
    go_wp2_with fail
    go_ret
    exact ⟨rfl, rfl⟩

/-- The last run takes no more of t. -/
def shutR (R : List Run) (t : Int) : Prop := ∀ Q r, R = Q ++ [r] → r.state ≠ t ∨ ¬ r.many < 64
theorem pushN_shut {R : List Run} {t : Int} (h : shutR R t) : pushN R t = R ++ [⟨t, 1⟩] := by
  rcases snoc_of R with rfl | ⟨Q, r, rfl⟩
  · rfl
  · rw [pushN_snoc, if_neg (fun hc => (h Q r rfl).elim (fun h => h hc.1) (fun h => h hc.2))]
theorem push_same {R : List Run} {t : Int} (h : shutR R t) : ∀ (k : Nat) (M : List Int), M.length = k + 1 → k + 1 ≤ 64 → (∀ x ∈ M, norm x = t) → M.foldl push R = R ++ [⟨t, ((k + 1 : Nat) : Int)⟩] := by
  intro k
  induction k with
  | zero =>
    intro M hM _ hn
    match M, hM with
    | [x], _ =>
      show pushN R (norm x) = _
      rw [hn x (by simp), pushN_shut h]
      rfl
  | succ k ih =>
    intro M hM h64 hn
    rcases snoc_of M with rfl | ⟨N, x, rfl⟩
    · simp at hM
    · rw [List.foldl_append, ih N (by simpa using hM) (by omega) (fun y hy => hn y (by simp [hy]))]
      show pushN _ (norm x) = _
      rw [hn x (by simp), pushN_snoc, if_pos ⟨rfl, by simp only; omega⟩]
      congr 2
theorem class_eq (x s : Int) : norm x = norm s ↔ (x = s ∨ (knownB x = false ∧ (s = 3 ∨ knownB s = false)) ∨ (x = 3 ∧ knownB s = false)) := by
  unfold norm knownB
  by_cases h0 : x = 0 <;> by_cases h1 : x = 1 <;> by_cases h3 : x = 3 <;> by_cases g0 : s = 0 <;> by_cases g1 : s = 1 <;> by_cases g3 : s = 3 <;> simp_all <;> omega

set_option maxRecDepth 100000 in
set_option maxHeartbeats 2000000 in
theorem of_ref (L : List Int) (n : Nat) (hl : L.length = n) (hn : n ≤ 1000000) (a : Option Addr) (cap : Nat) (w : World) (h : Rd w a (i64s L)) :
    Calls Try.prog 48 #[.slice a n cap] w (fun e w' => ∃ v, e = .returned v ∧ St w none0 w' [rowA 2 v (ofL L).length (runs (ofL L))]) := by
  obtain ⟨i0, hi, hz, hz1, hz2⟩ := info_parts run_info
  replace h := Lib.hid h; replace hl := Lib.hid hl
  go_enter Try.func48, Try.ntmps48
  go_wp2_with fail
  go_loopg [3, 4, 5, 6] n (fun g lv i _ _ wr => ∃ (j : Nat) (R : List Run), j ≤ n ∧ g = n - j ∧ i = .int .i64 j ∧ Hid (R = ofL (L.take j)) ∧ R.length ≤ j ∧ Hid (∀ hj : j < L.length, shutR R (norm L[j])) ∧ St w none0 wr [rowA 2 lv R.length (runs R)])
  case atStart => exact ⟨0, [], by omega, by omega, rfl, rfl, by simp, (fun _ Q r e => by simp at e), (St.zero w).row_nil⟩
  case round =>
    obtain ⟨lv, hlv⟩ : ∃ v, v = u3 := ⟨_, rfl⟩
    subst hlv
    obtain ⟨j, R, hj, hg, rfl, hR, hRj, hsh, hst⟩ := hrel
    by_cases hlt : j < n
    · have hjl : j < L.length := by have := hl.out; omega
      obtain ⟨b, off, rfl, hb, hc⟩ := ints_cell (h.out.below hst.below) hl.out (by omega)
      have e0 := hc j hjl
      have hsj := hsh.out hjl
      obtain ⟨s, hs⟩ : ∃ s, s = L[j] := ⟨_, rfl⟩
      rw [← hs] at e0 hsj
      clear hc hsh
      replace hst := Lib.hid hst; replace hsj := Lib.hid hsj; replace hs := Lib.hid hs
      go_upto_block 2 with fail
      go_cut [4, 6] (fun v4 v6 wx => ∃ (i q : Nat), v4 = .int .i64 i ∧ v6 = .int .i64 q ∧ i = j + q ∧ i ≤ n ∧ q ≤ 64 ∧ 1 ≤ q ∧ (∀ k (hk : k < L.length), j ≤ k → k < i → norm L[k] = norm s) ∧ (∀ hi : i < L.length, q = 64 ∨ norm L[i] ≠ norm s) ∧ St w none0 wx [rowA 2 lv R.length (runs R)])
      case first =>
        go_wp2_with fail
        go_loopg [4, 6] (n - j) (fun g v4 v6 wx => ∃ (q i : Nat), i = j + q ∧ i ≤ n ∧ q ≤ 64 ∧ v6 = .int .i64 q ∧ v4 = .int .i64 i ∧ g = n - i ∧ (1 ≤ q ∨ i = j) ∧ Hid (∀ k (hk : k < L.length), j ≤ k → k < i → norm L[k] = norm s) ∧ St w none0 wx [rowA 2 lv R.length (runs R)])
        case atStart => exact ⟨0, j, by omega, by omega, by omega, rfl, rfl, by omega, .inr rfl, fun k _ h1 h2 => by omega, hst.out⟩
        case round =>
          obtain ⟨q, i, hiq, hin, hq64, rfl, rfl, hg2, hq1', hcls, hst2⟩ := hrel
          clear hst
          obtain ⟨b2, off2, eb, hb2, hc2⟩ := ints_cell (h.out.below hst2.below) hl.out (by omega)
          injection eb with eb
          injection eb with eb1 eb2
          subst eb1 eb2
          by_cases hi2 : i < n
          · have hil : i < L.length := by have := hl.out; omega
            have e2 := hc2 i hil
            have hcl := class_eq L[i] s
            have hq1 : norm L[i] ≠ norm s ∨ q = 64 → 1 ≤ q := fun hh => by
              rcases hq1' with h | h
              · exact h
              · obtain rfl : i = j := h
                rcases hh with hh | hh
                · exact absurd (congrArg norm hs.out.symm) hh
                · omega
            have hcls' : norm L[i] = norm s → Hid (∀ k (hk : k < L.length), j ≤ k → k < i + 1 → norm L[k] = norm s) := fun e k hk h1 h2 => by
              by_cases ek : k = i
              · subst ek; exact e
              · exact hcls.out k hk h1 (by omega)
            have hiq1 : i + 1 = j + (q + 1) := by omega
            clear hc2
            generalize hx : L[i] = x at *
            replace hst2 := Lib.hid hst2; replace hiq := Lib.hid hiq; replace hiq1 := Lib.hid hiq1; replace hx := Lib.hid hx
            rcases Nat.lt_or_ge q 64 with h64 | h64
            · have d64 : decide ((q : Int) < 64) = true := decide_eq_true (by omega)
              by_cases xs : x = s
              · subst xs
                clear hcl
                replace hcls := Lib.hid hcls; replace hcls' := Lib.hid hcls'; replace hq1 := Lib.hid hq1
                go_wp2_with (go_at_call 90; refine Calls.mono (known_pure _ _) ?_; rintro e wz ⟨rfl, rfl⟩; (try simp only [kx]); (try simp only [ks]))
                go_roundg (n - (i + 1))
                case measure => omega
                case rel => exact ⟨q + 1, i + 1, hiq1.out, by omega, by omega, by go_num, by go_num, rfl, .inl (by omega), hcls' (by trivial), hst2.out⟩
              · have b1 : (x == s) = false := by simpa using xs
                cases kx : knownB x
                · by_cases s3 : s = 3
                  · have b2 : (s == 3) = true := by simpa using s3
                    have hce := hcl.2 (.inr (.inl ⟨kx, .inl s3⟩))
                    clear hcl
                    replace hce := Lib.hid hce; replace hcls := Lib.hid hcls; replace hcls' := Lib.hid hcls'; replace xs := Lib.hid xs; replace s3 := Lib.hid s3
                    go_wp2_with (go_at_call 90; refine Calls.mono (known_pure _ _) ?_; rintro e wz ⟨rfl, rfl⟩; (try simp only [kx]); (try simp only [ks]))
                    go_roundg (n - (i + 1))
                    case measure => omega
                    case rel => exact ⟨q + 1, i + 1, hiq1.out, by omega, by omega, by go_num, by go_num, rfl, .inl (by omega), hcls' hce.out, hst2.out⟩
                  · have b2 : (s == 3) = false := by simpa using s3
                    have b3 : (x == 3) = false := by
                      cases hx3 : (x == 3) with
                      | false => rfl
                      | true => simp [knownB, hx3] at kx
                    cases ks : knownB s
                    · have hce := hcl.2 (.inr (.inl ⟨kx, .inr ks⟩))
                      clear hcl
                      replace hce := Lib.hid hce; replace hcls := Lib.hid hcls; replace hcls' := Lib.hid hcls'; replace xs := Lib.hid xs; replace s3 := Lib.hid s3
                      go_wp2_with (go_at_call 90; refine Calls.mono (known_pure _ _) ?_; rintro e wz ⟨rfl, rfl⟩; (try simp only [kx]); (try simp only [ks]))
                      go_roundg (n - (i + 1))
                      case measure => omega
                      case rel => exact ⟨q + 1, i + 1, hiq1.out, by omega, by omega, by go_num, by go_num, rfl, .inl (by omega), hcls' hce.out, hst2.out⟩
                    · have hce : norm x ≠ norm s := fun e => by
                        rcases hcl.1 e with h | ⟨_, h | h⟩ | ⟨_, h⟩
                        · exact xs h
                        · exact s3 h
                        · rw [ks] at h; cases h
                        · rw [ks] at h; cases h
                      clear hcl
                      replace hce := Lib.hid hce; replace hcls := Lib.hid hcls; replace hcls' := Lib.hid hcls'; replace xs := Lib.hid xs; replace s3 := Lib.hid s3; replace hq1 := Lib.hid hq1
                      go_wp2_with (go_at_call 90; refine Calls.mono (known_pure _ _) ?_; rintro e wz ⟨rfl, rfl⟩; (try simp only [kx]); (try simp only [ks]))
                      go_meet
                      exact ⟨i, q, rfl, rfl, hiq.out, hin, hq64, hq1 (.inl hce.out), hcls.out.out, (fun _ => Or.symm (by rw [hx.out]; exact (.inl hce.out))), hst2.out⟩
                · by_cases x3 : x = 3
                  · have b3 : (x == 3) = true := by simpa using x3
                    cases ks : knownB s
                    · have hce := hcl.2 (.inr (.inr ⟨x3, ks⟩))
                      clear hcl
                      replace hce := Lib.hid hce; replace hcls := Lib.hid hcls; replace hcls' := Lib.hid hcls'; replace xs := Lib.hid xs; replace x3 := Lib.hid x3
                      go_wp2_with (go_at_call 90; refine Calls.mono (known_pure _ _) ?_; rintro e wz ⟨rfl, rfl⟩; (try simp only [kx]); (try simp only [ks]))
                      go_roundg (n - (i + 1))
                      case measure => omega
                      case rel => exact ⟨q + 1, i + 1, hiq1.out, by omega, by omega, by go_num, by go_num, rfl, .inl (by omega), hcls' hce.out, hst2.out⟩
                    · have hce : norm x ≠ norm s := fun e => by
                        rcases hcl.1 e with h | ⟨h, _⟩ | ⟨_, h⟩
                        · exact xs h
                        · rw [kx] at h; cases h
                        · rw [ks] at h; cases h
                      clear hcl
                      replace hce := Lib.hid hce; replace hcls := Lib.hid hcls; replace hcls' := Lib.hid hcls'; replace xs := Lib.hid xs; replace x3 := Lib.hid x3; replace hq1 := Lib.hid hq1
                      go_wp2_with (go_at_call 90; refine Calls.mono (known_pure _ _) ?_; rintro e wz ⟨rfl, rfl⟩; (try simp only [kx]); (try simp only [ks]))
                      go_meet
                      exact ⟨i, q, rfl, rfl, hiq.out, hin, hq64, hq1 (.inl hce.out), hcls.out.out, (fun _ => Or.symm (by rw [hx.out]; exact (.inl hce.out))), hst2.out⟩
                  · have b3 : (x == 3) = false := by simpa using x3
                    have hce : norm x ≠ norm s := fun e => by
                      rcases hcl.1 e with h | ⟨h, _⟩ | ⟨h, _⟩
                      · exact xs h
                      · rw [kx] at h; cases h
                      · exact x3 h
                    clear hcl
                    replace hce := Lib.hid hce; replace hcls := Lib.hid hcls; replace hcls' := Lib.hid hcls'; replace xs := Lib.hid xs; replace x3 := Lib.hid x3; replace hq1 := Lib.hid hq1
                    go_wp2_with (go_at_call 90; refine Calls.mono (known_pure _ _) ?_; rintro e wz ⟨rfl, rfl⟩; (try simp only [kx]); (try simp only [ks]))
                    go_meet
                    exact ⟨i, q, rfl, rfl, hiq.out, hin, hq64, hq1 (.inl hce.out), hcls.out.out, (fun _ => Or.symm (by rw [hx.out]; exact (.inl hce.out))), hst2.out⟩
            · have d64 : decide ((q : Int) < 64) = false := decide_eq_false (by omega)
              have hq' : q = 64 := by omega
              clear hcl
              replace hcls := Lib.hid hcls; replace hcls' := Lib.hid hcls'; replace hq1 := Lib.hid hq1; replace hq' := Lib.hid hq'
              go_wp2_with (go_at_call 90; refine Calls.mono (known_pure _ _) ?_; rintro e wz ⟨rfl, rfl⟩; (try simp only [kx]); (try simp only [ks]))
              go_meet
              exact ⟨i, q, rfl, rfl, hiq.out, hin, hq64, hq1 (.inr hq'.out), hcls.out.out, (fun _ => Or.symm (by rw [hx.out]; exact (.inr hq'.out))), hst2.out⟩
          · have hi3 : ¬ i < L.length := by have := hl.out; omega
            have hq1 : 1 ≤ q := by omega
            clear hc2
            replace hst2 := Lib.hid hst2; replace hcls := Lib.hid hcls; replace hiq := Lib.hid hiq
            go_wp2_with fail
            go_meet
            exact ⟨i, q, rfl, rfl, hiq.out, hin, hq64, hq1, hcls.out, (fun hh => absurd hh hi3), hst2.out⟩
      case rest =>
        obtain ⟨i, q, rfl, rfl, hiq, hin, hq64, hq1, hcls, hoff, HT⟩ := hcut
        have hsp : L.take i = L.take j ++ (L.drop j).take q := by rw [hiq, List.take_add]
        have hQ : R ++ [⟨norm s, (q : Int)⟩] = ofL (L.take i) := by
          obtain ⟨k, rfl⟩ : ∃ k, q = k + 1 := ⟨q - 1, by omega⟩
          have hlen : ((L.drop j).take (k + 1)).length = k + 1 := by rw [List.length_take, List.length_drop]; have := hl.out; omega
          have := push_same hsj.out k _ hlen (by omega) (fun x hx => by
            obtain ⟨m, hm, rfl⟩ := List.getElem_of_mem hx
            rw [hlen] at hm
            rw [List.getElem_take, List.getElem_drop]
            exact hcls (j + m) (by have := hl.out; omega) (by omega) (by omega))
          rw [← this, hR.out, hsp]
          unfold ofL
          rw [List.foldl_append]
        have hsh2 : ∀ hi : i < L.length, shutR (R ++ [⟨norm s, (q : Int)⟩]) (norm L[i]) := fun hi Q r e => by
          obtain ⟨rfl, rfl⟩ : Q = R ∧ r = ⟨norm s, (q : Int)⟩ := by
            have := List.append_inj' e rfl
            exact ⟨this.1.symm, by simpa using this.2.symm⟩
          rcases hoff hi with h | h
          · exact .inr (by simp only; omega)
          · exact .inl (fun e => h e.symm)
        have K := fun W => known_pure s W
        obtain ⟨t, ht⟩ : ∃ t, t = norm s := ⟨_, rfl⟩
        rw [← ht] at hQ hsh2
        clear hcls hoff hst hsp hsj e0
        obtain ⟨la, lc, hlv, hlc, hlm, _, _⟩ := St.slice (by omega) 0 HT rfl
        rw [hlv] at HT ⊢
        clear hlv
        cases hk : knownB s with
        | true =>
          obtain rfl : t = s := by rw [ht]; simp [norm, hk]
          rw [hk] at K
          clear ht hk hs
          replace HT := Lib.hid HT; replace hQ := Lib.hid hQ; replace hsh2 := Lib.hid hsh2; replace K := Lib.hid K
          go_wp2_with fail
          refine Calls.mono (K.out _) ?_
          rintro e wz ⟨rfl, rfl⟩
          clear K
          go_wp2_with (at_builtin; (refine wpList_appS rfl (.tmp 67) (.tmp 71) _ rfl 115 i0 _ 2 16 Try.underlying67 hi hz hz1 hz2 rfl (by omega) 0 _ R.length (runs R) rfl HT.out rfl 1 1 [.int .i64 t, .int .i64 q] rfl rfl (by simp [Value.oneCell']) (by omega) (by omega) ?_; intro wv5 w5 H5; replace H5 := Lib.hid H5))
          go_roundg (n - i)
          case measure => omega
          case rel => exact ⟨i, R ++ [⟨t, (q : Int)⟩], by omega, rfl, by go_num, hQ, (by simp; omega), hsh2, by rw [List.length_append, ← runs_app]; exact H5.out⟩
        | false =>
          obtain rfl : t = 3 := by rw [ht]; simp [norm, hk]
          rw [hk] at K
          clear ht hk hs
          replace HT := Lib.hid HT; replace hQ := Lib.hid hQ; replace hsh2 := Lib.hid hsh2; replace K := Lib.hid K
          go_wp2_with fail
          refine Calls.mono (K.out _) ?_
          rintro e wz ⟨rfl, rfl⟩
          clear K
          go_wp2_with (at_builtin; (refine wpList_appS rfl (.tmp 67) (.tmp 71) _ rfl 115 i0 _ 2 16 Try.underlying67 hi hz hz1 hz2 rfl (by omega) 0 _ R.length (runs R) rfl HT.out rfl 1 1 [.int .i64 3, .int .i64 q] rfl rfl (by simp [Value.oneCell']) (by omega) (by omega) ?_; intro wv5 w5 H5; replace H5 := Lib.hid H5))
          go_roundg (n - i)
          case measure => omega
          case rel => exact ⟨i, R ++ [⟨3, (q : Int)⟩], by omega, rfl, by go_num, hQ, (by simp; omega), hsh2, by rw [List.length_append, ← runs_app]; exact H5.out⟩
    · obtain rfl : j = n := by omega
      have hf : R = ofL L := by rw [hR.out, List.take_of_length_le (by have := hl.out; omega)]
      replace hf := Lib.hid hf; replace hst := Lib.hid hst
      go_wp2_with fail
      go_ret
      rw [← hf.out]
      exact ⟨_, rfl, hst.out⟩
end Go.Proofs.Ytfdijoaclpnccaa.Avec
