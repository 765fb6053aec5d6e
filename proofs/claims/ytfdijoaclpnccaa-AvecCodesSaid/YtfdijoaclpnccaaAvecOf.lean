/- The walks of avec.Of, and of its answer's States; what they come to. -/
import Derived.Test.YtfdijoaclpnccaaAvec
namespace Go.Proofs.Ytfdijoaclpnccaa.Avec
set_option linter.unusedSimpArgs false
set_option linter.unusedVariables false
open Go Go.RowKit Go.Proofs.Ytfdijoaclpnccaa
attribute [local irreducible] Calls

def norm (s : Int) : Int := if knownB s then s else 3
/-- One state more. -/
def pushN (R : List Run) (s : Int) : List Run :=
  match R.getLast? with
  | some r => if r.state = s ∧ r.many < 64 then R.dropLast ++ [⟨r.state, r.many + 1⟩] else R ++ [⟨s, 1⟩]
  | none => [⟨s, 1⟩]
def push (R : List Run) (s : Int) : List Run := pushN R (norm s)
theorem pushN_nil (s : Int) : pushN [] s = [⟨s, 1⟩] := rfl
theorem pushN_snoc (Q : List Run) (r : Run) (s : Int) : pushN (Q ++ [r]) s = if r.state = s ∧ r.many < 64 then Q ++ [⟨r.state, r.many + 1⟩] else Q ++ [r] ++ [⟨s, 1⟩] := by
  unfold pushN
  simp
def ofL (L : List Int) : List Run := L.foldl push []
theorem push_nil (s : Int) : push [] s = [⟨norm s, 1⟩] := rfl
theorem push_snoc (Q : List Run) (r : Run) (s : Int) : push (Q ++ [r]) s = if r.state = norm s ∧ r.many < 64 then Q ++ [⟨r.state, r.many + 1⟩] else Q ++ [r] ++ [⟨norm s, 1⟩] := by
  exact pushN_snoc Q r (norm s)
/-- Runs as they are made. -/
def fine (R : List Run) : Prop := ∀ r ∈ R, 1 ≤ r.many ∧ r.many ≤ 64
theorem snoc_of {α : Type} (l : List α) : l = [] ∨ ∃ q x, l = q ++ [x] := by
  rcases List.eq_nil_or_concat l with h | ⟨q, x, h⟩
  · exact .inl h
  · exact .inr ⟨q, x, by simpa using h⟩
theorem fine_push {R : List Run} (h : fine R) (s : Int) : fine (push R s) := by
  rcases snoc_of R with rfl | ⟨Q, r, rfl⟩
  · intro x hx
    rw [push_nil] at hx
    obtain rfl : x = ⟨norm s, 1⟩ := by simpa using hx
    exact ⟨by simp, by simp⟩
  · have hr := h r (by simp)
    have hQ : ∀ x ∈ Q, 1 ≤ x.many ∧ x.many ≤ 64 := fun x hx => h x (by simp [hx])
    rw [push_snoc]
    split
    · rename_i hc
      intro x hx
      rcases List.mem_append.1 hx with hx | hx
      · exact hQ x hx
      · obtain rfl : x = ⟨r.state, r.many + 1⟩ := by simpa using hx
        exact ⟨by simp only; omega, by simp only; omega⟩
    · intro x hx
      rcases List.mem_append.1 hx with hx | hx
      · exact h x hx
      · obtain rfl : x = ⟨norm s, 1⟩ := by simpa using hx
        exact ⟨by simp, by simp⟩
theorem fine_one (s : Int) : fine [⟨s, 1⟩] := by
  intro x hx
  obtain rfl : x = ⟨s, 1⟩ := by simpa using hx
  exact ⟨by simp, by simp⟩
theorem fine_add {R : List Run} (h : fine R) (s : Int) : fine (R ++ [⟨s, 1⟩]) := by
  intro x hx
  rcases List.mem_append.1 hx with hx | hx
  · exact h x hx
  · exact fine_one s x hx
theorem fine_bump {Q : List Run} {r : Run} (h : fine (Q ++ [r])) (hr : r.many < 64) : fine (Q ++ [⟨r.state, r.many + 1⟩]) := by
  intro x hx
  rcases List.mem_append.1 hx with hx | hx
  · exact h x (by simp [hx])
  · obtain rfl : x = ⟨r.state, r.many + 1⟩ := by simpa using hx
    have := h r (by simp)
    exact ⟨by simp only; omega, by simp only; omega⟩
theorem push_len (R : List Run) (s : Int) : (push R s).length ≤ R.length + 1 := by
  rcases snoc_of R with rfl | ⟨Q, r, rfl⟩
  · simp [push_nil]
  · rw [push_snoc]
    split <;> simp
theorem of_take {L : List Int} {j : Nat} (h : j < L.length) : ofL (L.take (j + 1)) = push (ofL (L.take j)) L[j] := foldl_take push [] L j h
/-- The states that runs tell. -/
def statesL (R : List Run) : List Int := R.flatMap fun r => List.replicate (heldI r.many).toNat r.state
theorem states_push {R : List Run} (h : fine R) (s : Int) : statesL (push R s) = statesL R ++ [norm s] := by
  rcases snoc_of R with rfl | ⟨Q, r, rfl⟩
  · rw [push_nil]; rfl
  · have hr := h r (by simp)
    rw [push_snoc]
    split
    · rename_i hc
      simp only [statesL, List.flatMap_append, List.flatMap_cons, List.flatMap_nil, List.append_nil, List.append_assoc]
      congr 1
      rw [show (heldI (r.many + 1)).toNat = (heldI r.many).toNat + 1 by unfold heldI; omega, List.replicate_succ', hc.1]
    · simp only [statesL, List.flatMap_append, List.flatMap_cons, List.flatMap_nil, List.append_nil]
      congr 1
theorem fine_of : ∀ (L : List Int), fine (ofL L) ∧ statesL (ofL L) = L.map norm := by
  intro L
  have key : ∀ (L : List Int) (R : List Run), fine R → fine (L.foldl push R) ∧ statesL (L.foldl push R) = statesL R ++ L.map norm := by
    intro L
    induction L with
    | nil => intro R h; exact ⟨h, by simp⟩
    | cons s L ih =>
      intro R h
      obtain ⟨h1, h2⟩ := ih (push R s) (fine_push h s)
      refine ⟨h1, ?_⟩
      rw [List.foldl_cons, h2, states_push h]
      simp
  exact key L [] (fun _ h => by simp at h)
theorem of_len (L : List Int) : (ofL L).length ≤ L.length := by
  have key : ∀ (L : List Int) (R : List Run), (L.foldl push R).length ≤ R.length + L.length := by
    intro L
    induction L with
    | nil => intro R; simp
    | cons s L ih =>
      intro R
      have h1 := ih (push R s)
      have h2 := push_len R s
      simp only [List.foldl_cons, List.length_cons] at h1 ⊢
      omega
  have := key L []
  simpa [ofL] using this
theorem ints_cell {w : World} {a : Option Addr} {l : List Int} (h : Rd w a (i64s l)) {n : Nat} (hn : l.length = n) (h0 : 0 < n) :
    ∃ b off, a = some ⟨b, off, none⟩ ∧ b < w.heap.size ∧ ∀ i (hi : i < l.length), w.cell? ⟨b, off + i, none⟩ = some (.int .i64 l[i]) := by
  obtain ⟨b, off, e, hb, hc⟩ := h.cons (i64s_ne hn h0)
  exact ⟨b, off, e, hb, fun i hi => hc i _ (i64s_at hi)⟩
theorem row_some {w : World} {base size n : Nat} {v : Value} {xs : List Value} (h : Own w base size v n xs) (hn : 0 < n) : ∃ g o cap, v = .slice (some ⟨g, o, none⟩) n cap := by
  rcases h.2 with ⟨_, e⟩ | ⟨g, o, cap, e, _⟩
  · omega
  · exact ⟨g, o, cap, e⟩
theorem runs_bump (Q : List Run) (r : Run) (m : Int) : (runs (Q ++ [r])).take (Q.length * 2 + 1) ++ [.int .i64 m] ++ (runs (Q ++ [r])).drop (Q.length * 2 + 1 + [Value.int .i64 m].length) = runs (Q ++ [⟨r.state, m⟩]) := by
  have hA : (runs Q).length = Q.length * 2 := runs_len Q
  have e1 : runs (Q ++ [r]) = runs Q ++ [.int .i64 r.state, .int .i64 r.many] := by simp [runs, encR]
  have e2 : runs (Q ++ [⟨r.state, m⟩]) = runs Q ++ [.int .i64 r.state, .int .i64 m] := by simp [runs, encR]
  rw [e1, e2]
  generalize runs Q = A at hA ⊢
  have hone : [Value.int .i64 m].length = 1 := rfl
  rw [hone, List.take_append, List.drop_append, List.take_of_length_le (show A.length ≤ Q.length * 2 + 1 by omega), List.drop_of_length_le (show A.length ≤ Q.length * 2 + 1 + 1 by omega), hA, show Q.length * 2 + 1 - Q.length * 2 = 1 by omega, show Q.length * 2 + 1 + 1 - Q.length * 2 = 2 by omega]
  simp

set_option maxRecDepth 100000 in
set_option maxHeartbeats 1000000 in
theorem of_any (L : List Int) (n : Nat) (hl : L.length = n) (hn : n ≤ 100000) (a : Option Addr) (cap : Nat) (w : World) (h : Rd w a (i64s L)) :
    Calls Try.prog 45 #[.slice a n cap] w (fun e w' => ∃ v, e = .returned v ∧ St w none0 w' [rowA 2 v (ofL L).length (runs (ofL L))]) := by
  obtain ⟨i0, hi, hz, hz1, hz2⟩ := info_parts run_info
  replace h := Lib.hid h; replace hl := Lib.hid hl
  go_enter Try.func45, Try.ntmps45
  go_wp2_with fail
  go_loopg [3, 5, 6, 9] n (fun g lv _ _ i wr => ∃ (j : Nat) (R : List Run), j ≤ n ∧ g = n - j ∧ i = .int .i64 j ∧ Hid (R = ofL (L.take j)) ∧ fine R ∧ R.length ≤ j ∧ St w none0 wr [rowA 2 lv R.length (runs R)])
  case atStart => exact ⟨0, [], by omega, by omega, rfl, rfl, (fun _ h => by simp at h), by simp, (St.zero w).row_nil⟩
  case round =>
    obtain ⟨lv, hlv⟩ : ∃ v, v = u3 := ⟨_, rfl⟩
    subst hlv
    obtain ⟨j, R, hj, hg, rfl, hR, hfi, hRj, hst⟩ := hrel
    by_cases hlt : j < n
    · have hjl : j < L.length := by have := hl.out; omega
      obtain ⟨b, off, rfl, hb, hc⟩ := ints_cell (h.out.below hst.below) hl.out (by omega)
      have e0 := hc j hjl
      have hnx : pushN R (norm L[j]) = ofL (L.take (j + 1)) := by rw [of_take hjl, ← hR.out]; rfl
      obtain ⟨la, lc, rfl, hlc, hlm, _, _⟩ := St.slice (by omega) 0 hst rfl
      have hlt2 := hfi
      unfold maxLen at hlm
      clear hc hR
      generalize L[j] = s at *
      have K := fun W => known_any s W
      obtain ⟨t, ht⟩ : ∃ t, t = norm s := ⟨_, rfl⟩
      rw [← ht] at hnx
      cases hk : knownB s with
      | true =>
        obtain rfl : t = s := by rw [ht]; simp [norm, hk]
        rw [hk] at K
        clear ht hk
        rcases snoc_of R with rfl | ⟨Q, r, rfl⟩
        · rw [pushN_nil] at hnx
          simp only [List.length_nil] at hst ⊢
          replace hnx := Lib.hid hnx; replace hst := Lib.hid hst; replace K := Lib.hid K
          go_wp2_with fail
          refine Calls.mono (K.out _) ?_
          rintro e wk ⟨rfl, hbk⟩
          replace hst := hst.out.thru hbk
          clear K
          replace hst := Lib.hid hst
          go_wp2_with (at_builtin; (refine wpList_appS rfl (.tmp 48) (.tmp 51) _ rfl 115 i0 _ 2 16 Try.underlying67 hi hz hz1 hz2 rfl (by omega) 0 _ 0 (runs []) rfl hst.out rfl 1 1 [.int .i64 t, .int .i64 1] rfl rfl (by simp [Value.oneCell']) (by omega) (by omega) ?_; intro wv5 w5 H5; replace H5 := Lib.hid H5))
          go_roundg (n - (j + 1))
          case measure => omega
          case rel => exact ⟨j + 1, [] ++ [⟨t, 1⟩], by omega, rfl, by go_num, hnx, (fine_one t), (by simp; try omega), by rw [List.length_append, ← runs_app]; (try rw [hlen]); exact H5.out⟩
        · have hr := hfi r (by simp)
          have hlen : (Q ++ [r]).length = Q.length + 1 := by simp
          rw [hlen] at hst ⊢
          obtain ⟨g, o, cp, hv⟩ := row_some (hst.row 0 rfl) (by omega)
          injection hv with hv1 hv2 hv3
          subst hv1 hv3
          rw [pushN_snoc] at hnx
          replace hnx := Lib.hid hnx; replace hst := Lib.hid hst; replace K := Lib.hid K
          go_wp2_with fail
          refine Calls.mono (K.out _) ?_
          rintro e wk ⟨rfl, hbk⟩
          replace hst := hst.out.thru hbk
          replace hnx := hnx.out
          clear K
          have hrd := St.rd (by omega) 0 hst rfl
          obtain ⟨b2, off2, eb, hlt3, hc2⟩ := runs_at hrd hlen (by omega)
          injection eb with eb
          injection eb with eb1 eb2
          subst eb1 eb2
          obtain ⟨c0, c1⟩ := hc2 Q.length (by simp)
          simp only [List.getElem_append_right (Nat.le_refl _), Nat.sub_self, List.getElem_cons_zero] at c0 c1
          have hfz : wk.frozen? ⟨g, o + Q.length * 2 + 1, none⟩ = false := by
            rcases (hst.row 0 rfl).2 with ⟨e, _⟩ | ⟨_, _, _, e, _, _, hnc, _, _, hfr⟩
            · cases e
            · injection e with e1 e2 e3
              injection e1 with e1
              injection e1 with e4 e5
              subst e4 e5 e3
              have := (hfr (Q.length * 2 + 1) (by omega)).2
              rwa [← Nat.add_assoc] at this
          clear hc2 hrd
          by_cases q1 : r.state = t
          · have d1 : (r.state == t) = true := by simpa using q1
            by_cases q2 : r.many < 64
            · have d2 : decide (r.many < 64) = true := decide_eq_true q2
              rw [if_pos ⟨q1, q2⟩] at hnx
              have HO := hst.over (k := 0) (p := Q.length * 2 + 1) (news := [.int .i64 (r.many + 1)]) rfl (by rw [runs_len]; simp; omega)
              rw [runs_bump] at HO
              have HO' : St w none0 (wk.setCell ⟨g, o + (Q.length * 2 + 1), none⟩ (.int .i64 (r.many + 1))) [rowA 2 (.slice (some ⟨g, o, none⟩) (Q.length + 1) lc) (Q.length + 1) (runs (Q ++ [⟨r.state, r.many + 1⟩]))] := HO
              rw [← Nat.add_assoc] at HO'
              clear hst HO
              replace q1 := Lib.hid q1
              replace hnx := Lib.hid hnx; replace HO' := Lib.hid HO'
              go_wp2_with fail
              go_roundg (n - (j + 1))
              case measure => omega
              case rel => exact ⟨j + 1, Q ++ [⟨r.state, r.many + 1⟩], by omega, rfl, by go_num, hnx, fine_bump hfi q2, by simp; omega, by rw [show (Q ++ [(⟨r.state, r.many + 1⟩ : Run)]).length = Q.length + 1 by simp]; exact HO'.out⟩
            · have d2 : decide (r.many < 64) = false := decide_eq_false q2
              rw [if_neg (fun h => q2 h.2)] at hnx
              replace q1 := Lib.hid q1
              replace hnx := Lib.hid hnx; replace hst := Lib.hid hst
              go_wp2_with (at_builtin; (refine wpList_appS rfl (.tmp 48) (.tmp 51) _ rfl 115 i0 _ 2 16 Try.underlying67 hi hz hz1 hz2 rfl (by omega) 0 _ (Q.length + 1) (runs (Q ++ [r])) rfl hst.out rfl 1 1 [.int .i64 t, .int .i64 1] rfl rfl (by simp [Value.oneCell']) (by omega) (by omega) ?_; intro wv5 w5 H5; replace H5 := Lib.hid H5))
              go_roundg (n - (j + 1))
              case measure => omega
              case rel => exact ⟨j + 1, (Q ++ [r]) ++ [⟨t, 1⟩], by omega, rfl, by go_num, hnx, (fine_add hfi t), (by simp; try omega), by rw [List.length_append, ← runs_app]; (try rw [hlen]); exact H5.out⟩
          · have d1 : (r.state == t) = false := by simpa using q1
            rw [if_neg (fun h => q1 h.1)] at hnx
            clear q1
            replace hnx := Lib.hid hnx; replace hst := Lib.hid hst
            go_wp2_with (at_builtin; (refine wpList_appS rfl (.tmp 48) (.tmp 51) _ rfl 115 i0 _ 2 16 Try.underlying67 hi hz hz1 hz2 rfl (by omega) 0 _ (Q.length + 1) (runs (Q ++ [r])) rfl hst.out rfl 1 1 [.int .i64 t, .int .i64 1] rfl rfl (by simp [Value.oneCell']) (by omega) (by omega) ?_; intro wv5 w5 H5; replace H5 := Lib.hid H5))
            go_roundg (n - (j + 1))
            case measure => omega
            case rel => exact ⟨j + 1, (Q ++ [r]) ++ [⟨t, 1⟩], by omega, rfl, by go_num, hnx, (fine_add hfi t), (by simp; try omega), by rw [List.length_append, ← runs_app]; (try rw [hlen]); exact H5.out⟩
      | false =>
        obtain rfl : t = 3 := by rw [ht]; simp [norm, hk]
        rw [hk] at K
        clear ht hk
        rcases snoc_of R with rfl | ⟨Q, r, rfl⟩
        · rw [pushN_nil] at hnx
          simp only [List.length_nil] at hst ⊢
          replace hnx := Lib.hid hnx; replace hst := Lib.hid hst; replace K := Lib.hid K
          go_wp2_with fail
          refine Calls.mono (K.out _) ?_
          rintro e wk ⟨rfl, hbk⟩
          replace hst := hst.out.thru hbk
          clear K
          replace hst := Lib.hid hst
          go_wp2_with (at_builtin; (refine wpList_appS rfl (.tmp 48) (.tmp 51) _ rfl 115 i0 _ 2 16 Try.underlying67 hi hz hz1 hz2 rfl (by omega) 0 _ 0 (runs []) rfl hst.out rfl 1 1 [.int .i64 3, .int .i64 1] rfl rfl (by simp [Value.oneCell']) (by omega) (by omega) ?_; intro wv5 w5 H5; replace H5 := Lib.hid H5))
          go_roundg (n - (j + 1))
          case measure => omega
          case rel => exact ⟨j + 1, [] ++ [⟨3, 1⟩], by omega, rfl, by go_num, hnx, (fine_one 3), (by simp; try omega), by rw [List.length_append, ← runs_app]; (try rw [hlen]); exact H5.out⟩
        · have hr := hfi r (by simp)
          have hlen : (Q ++ [r]).length = Q.length + 1 := by simp
          rw [hlen] at hst ⊢
          obtain ⟨g, o, cp, hv⟩ := row_some (hst.row 0 rfl) (by omega)
          injection hv with hv1 hv2 hv3
          subst hv1 hv3
          rw [pushN_snoc] at hnx
          replace hnx := Lib.hid hnx; replace hst := Lib.hid hst; replace K := Lib.hid K
          go_wp2_with fail
          refine Calls.mono (K.out _) ?_
          rintro e wk ⟨rfl, hbk⟩
          replace hst := hst.out.thru hbk
          replace hnx := hnx.out
          clear K
          have hrd := St.rd (by omega) 0 hst rfl
          obtain ⟨b2, off2, eb, hlt3, hc2⟩ := runs_at hrd hlen (by omega)
          injection eb with eb
          injection eb with eb1 eb2
          subst eb1 eb2
          obtain ⟨c0, c1⟩ := hc2 Q.length (by simp)
          simp only [List.getElem_append_right (Nat.le_refl _), Nat.sub_self, List.getElem_cons_zero] at c0 c1
          have hfz : wk.frozen? ⟨g, o + Q.length * 2 + 1, none⟩ = false := by
            rcases (hst.row 0 rfl).2 with ⟨e, _⟩ | ⟨_, _, _, e, _, _, hnc, _, _, hfr⟩
            · cases e
            · injection e with e1 e2 e3
              injection e1 with e1
              injection e1 with e4 e5
              subst e4 e5 e3
              have := (hfr (Q.length * 2 + 1) (by omega)).2
              rwa [← Nat.add_assoc] at this
          clear hc2 hrd
          by_cases q1 : r.state = 3
          · have d1 : (r.state == 3) = true := by simpa using q1
            by_cases q2 : r.many < 64
            · have d2 : decide (r.many < 64) = true := decide_eq_true q2
              rw [if_pos ⟨q1, q2⟩] at hnx
              have HO := hst.over (k := 0) (p := Q.length * 2 + 1) (news := [.int .i64 (r.many + 1)]) rfl (by rw [runs_len]; simp; omega)
              rw [runs_bump] at HO
              have HO' : St w none0 (wk.setCell ⟨g, o + (Q.length * 2 + 1), none⟩ (.int .i64 (r.many + 1))) [rowA 2 (.slice (some ⟨g, o, none⟩) (Q.length + 1) lc) (Q.length + 1) (runs (Q ++ [⟨r.state, r.many + 1⟩]))] := HO
              rw [← Nat.add_assoc] at HO'
              clear hst HO
              replace q1 := Lib.hid q1
              replace hnx := Lib.hid hnx; replace HO' := Lib.hid HO'
              go_wp2_with fail
              go_roundg (n - (j + 1))
              case measure => omega
              case rel => exact ⟨j + 1, Q ++ [⟨r.state, r.many + 1⟩], by omega, rfl, by go_num, hnx, fine_bump hfi q2, by simp; omega, by rw [show (Q ++ [(⟨r.state, r.many + 1⟩ : Run)]).length = Q.length + 1 by simp]; exact HO'.out⟩
            · have d2 : decide (r.many < 64) = false := decide_eq_false q2
              rw [if_neg (fun h => q2 h.2)] at hnx
              replace q1 := Lib.hid q1
              replace hnx := Lib.hid hnx; replace hst := Lib.hid hst
              go_wp2_with (at_builtin; (refine wpList_appS rfl (.tmp 48) (.tmp 51) _ rfl 115 i0 _ 2 16 Try.underlying67 hi hz hz1 hz2 rfl (by omega) 0 _ (Q.length + 1) (runs (Q ++ [r])) rfl hst.out rfl 1 1 [.int .i64 3, .int .i64 1] rfl rfl (by simp [Value.oneCell']) (by omega) (by omega) ?_; intro wv5 w5 H5; replace H5 := Lib.hid H5))
              go_roundg (n - (j + 1))
              case measure => omega
              case rel => exact ⟨j + 1, (Q ++ [r]) ++ [⟨3, 1⟩], by omega, rfl, by go_num, hnx, (fine_add hfi 3), (by simp; try omega), by rw [List.length_append, ← runs_app]; (try rw [hlen]); exact H5.out⟩
          · have d1 : (r.state == 3) = false := by simpa using q1
            rw [if_neg (fun h => q1 h.1)] at hnx
            clear q1
            replace hnx := Lib.hid hnx; replace hst := Lib.hid hst
            go_wp2_with (at_builtin; (refine wpList_appS rfl (.tmp 48) (.tmp 51) _ rfl 115 i0 _ 2 16 Try.underlying67 hi hz hz1 hz2 rfl (by omega) 0 _ (Q.length + 1) (runs (Q ++ [r])) rfl hst.out rfl 1 1 [.int .i64 3, .int .i64 1] rfl rfl (by simp [Value.oneCell']) (by omega) (by omega) ?_; intro wv5 w5 H5; replace H5 := Lib.hid H5))
            go_roundg (n - (j + 1))
            case measure => omega
            case rel => exact ⟨j + 1, (Q ++ [r]) ++ [⟨3, 1⟩], by omega, rfl, by go_num, hnx, (fine_add hfi 3), (by simp; try omega), by rw [List.length_append, ← runs_app]; (try rw [hlen]); exact H5.out⟩
    · obtain rfl : j = n := by omega
      have hf : R = ofL L := by rw [hR.out, List.take_of_length_le (by have := hl.out; omega)]
      replace hf := Lib.hid hf; replace hst := Lib.hid hst
      go_wp2_with fail
      go_ret
      rw [← hf.out]
      exact ⟨_, rfl, hst.out⟩
end Go.Proofs.Ytfdijoaclpnccaa.Avec
