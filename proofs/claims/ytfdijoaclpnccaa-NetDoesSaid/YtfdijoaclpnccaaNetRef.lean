/- The walks of the net's answer: Put, Take, Double. -/
import Derived.Test.YtfdijoaclpnccaaNetAllWalk
import Derived.Test.YtfdijoaclpnccaaMade
import Derived.Test.YtfdijoaclpnccaaStepRd
namespace Go.Proofs.Ytfdijoaclpnccaa.Net
set_option linter.unusedSimpArgs false
set_option linter.unusedVariables false
open Go Go.RowKit Go.Proofs.Ytfdijoaclpnccaa Go.Proofs.Ytfdijoaclpnccaa.DelUn
attribute [local irreducible] Calls

/-- A list handed back: what was handed in, or in new memory. -/
def NewL (w : World) (v v' : Value) (l l' : List Un) (w' : World) : Prop := (v' = v ∧ l' = l ∧ Below w.heap.size w w') ∨ St w none0 w' [rowA 4 v' l'.length (uns l')]
theorem NewL.thru {W S0 w w'} {v v' : Value} {l l' : List Un} {r : List Asn} (h : NewL w v v' l l' w') (H : St W S0 w (rowA 4 v l.length (uns l) :: r)) : St W S0 w' (rowA 4 v' l'.length (uns l') :: r) := by
  rcases h with ⟨rfl, rfl, hb⟩ | h
  · exact H.thru hb
  · exact (H.add h).drop 1 rfl
def putL (l : List Un) (x : Un) : List Un := if l.length < 200 then l ++ [x] else l

theorem place_ref (x : Int) (n : Nat) (hn : n ≤ maxLen) (w : World) : Calls Try.prog 74 #[.int .i64 x, .int .i64 n] w (Ret w (.int .i64 (if x < 0 ∨ n = 0 then -1 else ((x.toNat % n : Nat) : Int)))) := by
  unfold maxLen at hn
  by_cases hx : x < 0
  · have q : decide (x < 0) = true := decide_eq_true hx
    rw [if_pos (.inl hx)]
    go_enter Try.func74, Try.ntmps74
    go_wp2_with fail
    go_ret
    exact Ret.mk rfl (by repeat (first | with_reducible exact Below.refl _ _ | (with_reducible refine Below.al ?_) | (with_reducible refine Below.drew ?_) | (with_reducible refine Below.set ?_ (by first | (simp; done) | omega | (simp; omega))) | (with_reducible refine Below.thru ?_ (by assumption)) | (with_reducible refine Below.chg ?_ (by assumption) (by first | (simp; done) | omega | (simp; omega)))))
  · have q : decide (x < 0) = false := decide_eq_false hx
    by_cases h0 : n = 0
    · subst h0
      rw [if_pos (.inr rfl)]
      go_enter Try.func74, Try.ntmps74
      go_wp2_with fail
      go_ret
      exact Ret.mk rfl (by repeat (first | with_reducible exact Below.refl _ _ | (with_reducible refine Below.al ?_) | (with_reducible refine Below.drew ?_) | (with_reducible refine Below.set ?_ (by first | (simp; done) | omega | (simp; omega))) | (with_reducible refine Below.thru ?_ (by assumption)) | (with_reducible refine Below.chg ?_ (by assumption) (by first | (simp; done) | omega | (simp; omega)))))
    · rw [if_neg (by omega)]
      have q3 : ((n : Int) == 0) = false := beq_false_of_ne (by omega)
      obtain ⟨k, rfl⟩ : ∃ k : Nat, x = (k : Int) := ⟨x.toNat, by omega⟩
      obtain ⟨m, hm'⟩ : ∃ m : Nat, m = k % n := ⟨_, rfl⟩
      have hm : ((k : Int)) % (n : Int) = (m : Int) := by rw [hm']; norm_cast
      rw [Int.toNat_natCast, ← hm']
      clear hm'
      go_enter Try.func74, Try.ntmps74
      go_wp2_with fail
      go_ret
      exact Ret.mk (by simp [hm]) (by repeat (first | with_reducible exact Below.refl _ _ | (with_reducible refine Below.al ?_) | (with_reducible refine Below.drew ?_) | (with_reducible refine Below.set ?_ (by first | (simp; done) | omega | (simp; omega))) | (with_reducible refine Below.thru ?_ (by assumption)) | (with_reducible refine Below.chg ?_ (by assumption) (by first | (simp; done) | omega | (simp; omega)))))

set_option maxRecDepth 100000 in
theorem put_ref (a : Option Addr) (cap : Nat) (l : List Un) (x : Un) (w : World) (hn : l.length ≤ 100000) (h : Rd w a (uns l)) (h0 : a = none → l.length = 0) :
    Calls Try.prog 17 #[.slice a l.length cap, valU x] w (fun e w' => ∃ v', e = .returned (.tuple #[v', .bool (decide (l.length < 200))]) ∧ NewL w (.slice a l.length cap) v' l (putL l x) w') := by
  obtain ⟨i0, hi, hz, hz1, hz2⟩ := info_parts el_info
  obtain ⟨x0, x1, x2, x3⟩ := x
  unfold valU putL
  simp only
  have H0 := (St.zero w).alloc [.int .i64 x0, .int .i64 x1, .int .i64 x2, .string x3] 31
  by_cases hlt : l.length < 200
  · have q : decide ((200 : Int) ≤ (l.length : Int)) = false := decide_eq_false (by omega)
    rw [decide_eq_true hlt, if_pos hlt]
    replace H0 := Lib.hid H0; replace h := Lib.hid h; replace h0 := Lib.hid h0
    go_enter Try.func17, Try.ntmps17
    go_wp2_with fail
    refine wp_region_made0 [1, 3] [false, true, false, true, false, false, false, false] 6 #[false, true, false, true, false, false, false, false] (by kernel_rfl) rfl (by kernel_rfl) (by kernel_rfl) rfl (by kernel_rfl) (by kernel_rfl) (by intro c a a' w e h; obtain ⟨t, d⟩ := a; obtain ⟨t', d'⟩ := a'; obtain rfl : d = d' := e; exact h) ?_
    intro hs
    simp only [pickB]
    repeat (go_big_quiet_step (fail))
    refine wpQuiet_nil ?_
    clear hs
    intro W hW
    rw [← hW] at H0
    replace hW := Lib.hid hW
    have Z : St W none0 W.drew [] := (St.zero W).drew
    have hr : Rd W a (uns l) := h.out.of_st H0.out
    refine held_two (i := 0) (j := 4) (by kernel_rfl) (fun K hK => ?_) (fun K hK => ?_) <;> simp only [List.drop_succ_cons, List.drop_zero, List.take_succ_cons, List.take_zero]
    · go_wp2_with fail
      have E1 := Z.alloc [] 31
      refine hK _ _ E1.below ?_
      clear hK K
      have E2 := E1.row_empty (size := 4) 0 rfl
      have hr2 := hr.of_st E2
      refine held_two (i := 2) (j := 4) (by kernel_rfl) (fun K hK => ?_) (fun K hK => ?_) <;> simp only [List.drop_succ_cons, List.drop_zero, List.take_succ_cons, List.take_zero]
      · go_wp2_with (at_builtin; (refine wpList_appRd rfl (.tmp 10) (.tmp 11) _ rfl 31 i0 _ 4 40 Try.underlying27 hi hz hz1 hz2 rfl (by omega) 0 _ 0 [] rfl E2 rfl a l.length cap (uns l) rfl (uns_len l) hr2 h0.out (uns_one l) (by omega) (by omega) ?_; intro wv5 w5 HA; (try simp only [Nat.zero_add, List.nil_append] at HA)))
        refine hK _ _ HA.below ?_
        clear hK K
        refine held_one (i := 4) (by kernel_rfl) fun K hK => ?_
        simp only [List.drop_succ_cons, List.drop_zero, List.take_succ_cons, List.take_zero]
        go_wp2_with fail
        have HB := St.alloc HA [.int .i64 x0, .int .i64 x1, .int .i64 x2, .string x3] 31
        try simp only [World.size_alloc, World.size_drew] at HB
        refine hK _ _ (St.below HB) ?_
        clear hK K
        refine held_one (i := 5) (by kernel_rfl) fun K hK => ?_
        simp only [List.drop_succ_cons, List.drop_zero, List.take_succ_cons, List.take_zero]
        go_wp2_with (at_builtin; (refine wpList_appRd rfl (.tmp 12) (.tmp 14) _ rfl 31 i0 _ 4 40 Try.underlying27 hi hz hz1 hz2 rfl (by omega) 1 _ l.length (uns l) rfl HB rfl _ 1 1 [.int .i64 x0, .int .i64 x1, .int .i64 x2, .string x3] rfl rfl (St.box 0 HB rfl).rd (by simp) (by simp [Value.oneCell']) (by omega) (by omega) ?_; intro wv6 w6 HC))
        refine hK _ _ HC.below ?_
        clear hK K
        refine held_one (i := 6) (by kernel_rfl) fun K hK => ?_
        simp only [List.drop_succ_cons, List.drop_zero, List.take_succ_cons, List.take_zero]
        go_wp2_with fail
        refine hK _ _ HC.below ?_
        clear hK K
        refine held_one (i := 7) (by kernel_rfl) fun K hK => ?_
        simp only [List.drop_succ_cons, List.drop_zero, List.take_succ_cons, List.take_zero]
        go_wp2_with fail
        refine hK _ _ HC.below ?_
        clear hK K
        refine held_done (by kernel_rfl) ?_
        have HD : St w none0 w6 [rowA 4 wv6 (l.length + 1) (uns l ++ encU ⟨x0, x1, x2, x3⟩)] := ((H0.out.add HC).front 0 rfl).drops 1
        rw [uns_app] at HD
        replace HD := Lib.hid HD
        go_wp2_with fail
        go_ret2
        exact ⟨_, rfl, .inr (by rw [List.length_append]; exact HD.out)⟩
      · go_wp2_with fail
        have HB := St.alloc E2 [.int .i64 x0, .int .i64 x1, .int .i64 x2, .string x3] 31
        try simp only [World.size_alloc, World.size_drew] at HB
        refine hK _ _ (St.below HB) ?_
        clear hK K
        have hr3 := hr.of_st HB
        refine held_one (i := 2) (by kernel_rfl) fun K hK => ?_
        simp only [List.drop_succ_cons, List.drop_zero, List.take_succ_cons, List.take_zero]
        go_wp2_with (at_builtin; (refine wpList_appRd rfl (.tmp 10) (.tmp 11) _ rfl 31 i0 _ 4 40 Try.underlying27 hi hz hz1 hz2 rfl (by omega) 1 _ 0 [] rfl HB rfl a l.length cap (uns l) rfl (uns_len l) hr3 h0.out (uns_one l) (by omega) (by omega) ?_; intro wv5 w5 HA; (try simp only [Nat.zero_add, List.nil_append] at HA)))
        refine hK _ _ HA.below ?_
        clear hK K
        refine held_one (i := 5) (by kernel_rfl) fun K hK => ?_
        simp only [List.drop_succ_cons, List.drop_zero, List.take_succ_cons, List.take_zero]
        go_wp2_with (at_builtin; (refine wpList_appRd rfl (.tmp 12) (.tmp 14) _ rfl 31 i0 _ 4 40 Try.underlying27 hi hz hz1 hz2 rfl (by omega) 0 _ l.length (uns l) rfl HA rfl _ 1 1 [.int .i64 x0, .int .i64 x1, .int .i64 x2, .string x3] rfl rfl (St.box 1 HA rfl).rd (by simp) (by simp [Value.oneCell']) (by omega) (by omega) ?_; intro wv6 w6 HC))
        refine hK _ _ HC.below ?_
        clear hK K
        refine held_one (i := 6) (by kernel_rfl) fun K hK => ?_
        simp only [List.drop_succ_cons, List.drop_zero, List.take_succ_cons, List.take_zero]
        go_wp2_with fail
        refine hK _ _ HC.below ?_
        clear hK K
        refine held_one (i := 7) (by kernel_rfl) fun K hK => ?_
        simp only [List.drop_succ_cons, List.drop_zero, List.take_succ_cons, List.take_zero]
        go_wp2_with fail
        refine hK _ _ HC.below ?_
        clear hK K
        refine held_done (by kernel_rfl) ?_
        have HD : St w none0 w6 [rowA 4 wv6 (l.length + 1) (uns l ++ encU ⟨x0, x1, x2, x3⟩)] := ((H0.out.add HC).front 0 rfl).drops 1
        rw [uns_app] at HD
        replace HD := Lib.hid HD
        go_wp2_with fail
        go_ret2
        exact ⟨_, rfl, .inr (by rw [List.length_append]; exact HD.out)⟩
    · go_wp2_with fail
      have HB := St.alloc Z [.int .i64 x0, .int .i64 x1, .int .i64 x2, .string x3] 31
      try simp only [World.size_alloc, World.size_drew] at HB
      refine hK _ _ (St.below HB) ?_
      clear hK K
      refine held_one (i := 0) (by kernel_rfl) fun K hK => ?_
      simp only [List.drop_succ_cons, List.drop_zero, List.take_succ_cons, List.take_zero]
      go_wp2_with fail
      have E1 := HB.alloc [] 31
      try simp only [World.size_alloc, World.size_drew] at E1
      refine hK _ _ E1.below ?_
      clear hK K
      have E2 := E1.row_empty (size := 4) 0 rfl
      have hr2 := hr.of_st E2
      refine held_one (i := 2) (by kernel_rfl) fun K hK => ?_
      simp only [List.drop_succ_cons, List.drop_zero, List.take_succ_cons, List.take_zero]
      go_wp2_with (at_builtin; (refine wpList_appRd rfl (.tmp 10) (.tmp 11) _ rfl 31 i0 _ 4 40 Try.underlying27 hi hz hz1 hz2 rfl (by omega) 0 _ 0 [] rfl E2 rfl a l.length cap (uns l) rfl (uns_len l) hr2 h0.out (uns_one l) (by omega) (by omega) ?_; intro wv5 w5 HA; (try simp only [Nat.zero_add, List.nil_append] at HA)))
      refine hK _ _ HA.below ?_
      clear hK K
      refine held_one (i := 5) (by kernel_rfl) fun K hK => ?_
      simp only [List.drop_succ_cons, List.drop_zero, List.take_succ_cons, List.take_zero]
      go_wp2_with (at_builtin; (refine wpList_appRd rfl (.tmp 12) (.tmp 14) _ rfl 31 i0 _ 4 40 Try.underlying27 hi hz hz1 hz2 rfl (by omega) 0 _ l.length (uns l) rfl HA rfl _ 1 1 [.int .i64 x0, .int .i64 x1, .int .i64 x2, .string x3] rfl rfl (St.box 1 HA rfl).rd (by simp) (by simp [Value.oneCell']) (by omega) (by omega) ?_; intro wv6 w6 HC))
      refine hK _ _ HC.below ?_
      clear hK K
      refine held_one (i := 6) (by kernel_rfl) fun K hK => ?_
      simp only [List.drop_succ_cons, List.drop_zero, List.take_succ_cons, List.take_zero]
      go_wp2_with fail
      refine hK _ _ HC.below ?_
      clear hK K
      refine held_one (i := 7) (by kernel_rfl) fun K hK => ?_
      simp only [List.drop_succ_cons, List.drop_zero, List.take_succ_cons, List.take_zero]
      go_wp2_with fail
      refine hK _ _ HC.below ?_
      clear hK K
      refine held_done (by kernel_rfl) ?_
      have HD : St w none0 w6 [rowA 4 wv6 (l.length + 1) (uns l ++ encU ⟨x0, x1, x2, x3⟩)] := ((H0.out.add HC).front 0 rfl).drops 1
      rw [uns_app] at HD
      replace HD := Lib.hid HD
      go_wp2_with fail
      go_ret2
      exact ⟨_, rfl, .inr (by rw [List.length_append]; exact HD.out)⟩
  · have q : decide ((200 : Int) ≤ (l.length : Int)) = true := decide_eq_true (by omega)
    rw [decide_eq_false hlt, if_neg hlt]
    replace H0 := Lib.hid H0; replace h := Lib.hid h; replace h0 := Lib.hid h0
    go_enter Try.func17, Try.ntmps17
    go_wp2_with fail
    go_ret2
    exact ⟨_, rfl, .inl ⟨rfl, rfl, (by repeat (first | with_reducible exact Below.refl _ _ | (with_reducible refine Below.al ?_) | (with_reducible refine Below.drew ?_) | (with_reducible refine Below.set ?_ (by first | (simp; done) | omega | (simp; omega))) | (with_reducible refine Below.thru ?_ (by assumption)) | (with_reducible refine Below.chg ?_ (by assumption) (by first | (simp; done) | omega | (simp; omega)))))⟩⟩

set_option maxRecDepth 100000 in
theorem take_ref_bad (a : Option Addr) (cap : Nat) (l : List Un) (x : Int) (w : World) (hn : l.length ≤ 100000) (hb : l.length = 0 ∨ x < 0) :
    Calls Try.prog 19 #[.slice a l.length cap, .int .i64 x] w (fun e w' => ∃ v', e = .returned (.tuple #[v', zeroU, .bool false]) ∧ NewL w (.slice a l.length cap) v' l l w') := by
  go_enter Try.func19, Try.ntmps19
  go_wp2_with fail
  refine Calls.mono (place_ref x l.length (by unfold maxLen; omega) _) ?_
  rw [if_pos (by omega)]
  rintro e w1 ⟨rfl, hb1⟩
  have hr : Box w1 w.heap.size zl := (Box.new zl 31).below hb1
  obtain ⟨zr, cr, fr⟩ := hr
  unfold zl at cr
  clear hb
  go_wp2_with fail
  exact bodyPost_ret (v := .tuple #[.slice a l.length cap, zeroU, .bool false]) (by simp [results, Try.results19, go_sem, cr, zr, zeroU]; try rfl) rfl ⟨_, rfl, .inl ⟨rfl, rfl, (by repeat (first | with_reducible exact Below.refl _ _ | (with_reducible refine Below.al ?_) | (with_reducible refine Below.drew ?_) | (with_reducible refine Below.set ?_ (by first | (simp; done) | omega | (simp; omega))) | (with_reducible refine Below.thru ?_ (by assumption)) | (with_reducible refine Below.chg ?_ (by assumption) (by first | (simp; done) | omega | (simp; omega)))))⟩⟩

set_option maxRecDepth 100000 in
set_option maxHeartbeats 400000 in
theorem take_ref_ok (a : Option Addr) (cap : Nat) (l : List Un) (x : Int) (u : Un) (w : World) (hn : l.length ≤ 100000) (hcap : l.length ≤ cap) (hcm : cap ≤ maxLen) (h : Rd w a (uns l)) (hx : 0 ≤ x) (h0 : 0 < l.length) (hu : l[x.toNat % l.length]? = some u) :
    Calls Try.prog 19 #[.slice a l.length cap, .int .i64 x] w (fun e w' => ∃ v', e = .returned (.tuple #[v', valU u, .bool true]) ∧ NewL w (.slice a l.length cap) v' l (l.take (x.toNat % l.length) ++ l.drop (x.toNat % l.length + 1)) w') := by
  obtain ⟨i0, hi, hz, hz1, hz2⟩ := info_parts el_info
  have P := fun W => place_ref x l.length (by unfold maxLen; omega) W
  rw [if_neg (by omega)] at P
  obtain ⟨i, hk⟩ : ∃ i, i = x.toNat % l.length := ⟨_, rfl⟩
  rw [← hk] at hu P ⊢
  obtain ⟨hkl, hku⟩ := List.getElem?_eq_some_iff.1 hu
  clear hk
  obtain ⟨b, off, rfl, hb, hc⟩ := uns_at h rfl h0
  obtain ⟨e0, e1, e2, e3⟩ := hc i hkl
  rw [hku] at e0 e1 e2 e3
  have R1 : Rd w (some ⟨b, off, none⟩) (uns (l.take i)) := by rw [← uns_take]; exact Rd.pre h _
  have R2 : Rd w (some ⟨b, off + (i + 1) * 4, none⟩) (uns (l.drop (i + 1))) := by
    rw [← uns_drop]
    right
    refine ⟨b, off + (i + 1) * 4, rfl, hb, fun j v hv => ?_⟩
    rw [List.getElem?_drop] at hv
    obtain ⟨b', off', e, _, hc'⟩ := h.cons (uns_ne rfl h0)
    injection e with e
    injection e with e1 e2
    subst e1 e2
    rw [Nat.add_assoc]
    exact hc' _ _ hv
  obtain ⟨u0, u1, u2, u3⟩ := u
  simp only at e0 e1 e2 e3
  unfold valU
  simp only
  have H0 := (St.zero w).alloc zl 31
  unfold maxLen at hcm
  clear hc hku hu h
  replace P := Lib.hid P; replace H0 := Lib.hid H0
  go_enter Try.func19, Try.ntmps19
  go_wp2_with fail
  refine Calls.mono (P.out _) ?_
  rintro e w1 ⟨rfl, hb1⟩
  have H1 := H0.out.thru hb1
  unfold zl at H1
  obtain ⟨zr, cr, fr⟩ := H1.box 0 rfl
  clear P H0
  replace H1 := Lib.hid H1
  by_cases hcj : cap = i + 1
  · have hni : l.length = i + 1 := by omega
    subst hcj
    go_wp2_with fail
    have hbW : Below w.heap.size w w1 := (by repeat (first | with_reducible exact Below.refl _ _ | (with_reducible refine Below.al ?_) | (with_reducible refine Below.drew ?_) | (with_reducible refine Below.set ?_ (by first | (simp; done) | omega | (simp; omega))) | (with_reducible refine Below.thru ?_ (by assumption)) | (with_reducible refine Below.chg ?_ (by assumption) (by first | (simp; done) | omega | (simp; omega)))))
    refine wp_region_made (w.heap.size) (w) [1, 2, 3, 5, 6, 7, 8, 10, 11, 12, 13] [false, true, true, true, false, true, true, true, true, false, true, true, true, true, false, false, false] 6 #[false, true, true, true, false, true, true, true, true, false, true, true, true, true, false, false, false] (by kernel_rfl) (hbW) rfl (by kernel_rfl) (by kernel_rfl) rfl (by kernel_rfl) (by kernel_rfl) (by intro c a a' w e h; obtain ⟨t, d⟩ := a; obtain ⟨t', d'⟩ := a'; obtain rfl : d = d' := e; exact h) ?_
    intro hs
    simp only [pickB]
    repeat (go_big_quiet_step (fail))
    refine wpQuiet_nil ?_
    clear hs
    refine held_one (i := 0) (by kernel_rfl) fun K hK => ?_
    simp only [List.drop_succ_cons, List.drop_zero, List.take_succ_cons, List.take_zero]
    go_wp2_with fail
    have E1 := H1.out.drew.alloc [] 31
    try simp only [World.size_alloc, World.size_drew] at E1
    refine hK _ _ E1.below ?_
    clear hK K
    have E2 := E1.row_empty (size := 4) 0 rfl
    refine held_one (i := 4) (by kernel_rfl) fun K hK => ?_
    simp only [List.drop_succ_cons, List.drop_zero, List.take_succ_cons, List.take_zero]
    go_wp2_with (at_builtin; (refine wpList_appRd rfl (.tmp 16) (.tmp 19) _ rfl 31 i0 _ 4 40 Try.underlying27 hi hz hz1 hz2 rfl (by omega) 0 _ 0 [] rfl E2 rfl _ i _ (uns (l.take i)) rfl (by rw [uns_len]; simp; try omega) (R1.of_st E2) (fun e => by cases e) (uns_one _) (by omega) (by omega) ?_; intro wv5 w5 HA; (try simp only [Nat.zero_add, List.nil_append] at HA)))
    refine hK _ _ HA.below ?_
    clear hK K
    refine held_one (i := 9) (by kernel_rfl) fun K hK => ?_
    simp only [List.drop_succ_cons, List.drop_zero, List.take_succ_cons, List.take_zero]
    go_wp2_with (at_builtin; (refine wpList_appRd rfl (.tmp 20) (.tmp 24) _ rfl 31 i0 _ 4 40 Try.underlying27 hi hz hz1 hz2 rfl (by omega) 0 _ i (uns (l.take i)) rfl HA rfl _ _ _ (uns (l.drop (i + 1))) rfl (by rw [uns_len]; simp; try omega) (.inl (by rw [List.drop_of_length_le (by omega)]; rfl)) (fun e => by cases e) (uns_one _) (by omega) (by omega) ?_; intro wv5 w5 HA; (try simp only [Nat.zero_add, List.nil_append] at HA)))
    refine hK _ _ HA.below ?_
    clear hK K
    obtain ⟨z5, k5, f5⟩ := HA.box 1 rfl
    refine held_one (i := 14) (by kernel_rfl) fun K hK => ?_
    simp only [List.drop_succ_cons, List.drop_zero, List.take_succ_cons, List.take_zero]
    go_wp2_with fail
    refine hK _ _ HA.below ?_
    clear hK K
    refine held_one (i := 15) (by kernel_rfl) fun K hK => ?_
    simp only [List.drop_succ_cons, List.drop_zero, List.take_succ_cons, List.take_zero]
    go_wp2_with fail
    have HS := ((((((((HA.front 1 rfl).set 0 rfl 0 (.int .i64 u0) (by simp))).set 0 rfl 1 (.int .i64 u1) (by simp))).set 0 rfl 2 (.int .i64 u2) (by simp))).set 0 rfl 3 (.string u3) (by simp))
    refine hK _ _ HS.below ?_
    clear hK K
    refine held_one (i := 16) (by kernel_rfl) fun K hK => ?_
    simp only [List.drop_succ_cons, List.drop_zero, List.take_succ_cons, List.take_zero]
    go_wp2_with fail
    refine hK _ _ HS.below ?_
    clear hK K
    refine held_done (by kernel_rfl) ?_
    obtain ⟨z6, k6, f6⟩ := HS.box 0 rfl
    have hlen : (l.take i ++ l.drop (i + 1)).length = i + 0 := by simp; omega
    have HD := (HS.front 1 rfl).drops 1
    rw [show uns (l.take i) ++ uns (l.drop (i + 1)) = uns (l.take i ++ l.drop (i + 1)) from by simp [uns]] at HD
    replace HD := Lib.hid HD
    clear HS HA
    go_wp2_with fail
    refine bodyPost_ret (v := .tuple #[_, .agg #[.int .i64 u0, .int .i64 u1, .int .i64 u2, .string u3], .bool true]) (by simp [results, Try.results19, go_sem, k6, z6]; try rfl) rfl ⟨_, rfl, .inr ?_⟩
    rw [hlen]
    exact HD.out
  · go_wp2_with fail
    have hbW : Below w.heap.size w w1 := (by repeat (first | with_reducible exact Below.refl _ _ | (with_reducible refine Below.al ?_) | (with_reducible refine Below.drew ?_) | (with_reducible refine Below.set ?_ (by first | (simp; done) | omega | (simp; omega))) | (with_reducible refine Below.thru ?_ (by assumption)) | (with_reducible refine Below.chg ?_ (by assumption) (by first | (simp; done) | omega | (simp; omega)))))
    refine wp_region_made (w.heap.size) (w) [1, 2, 3, 5, 6, 7, 8, 10, 11, 12, 13] [false, true, true, true, false, true, true, true, true, false, true, true, true, true, false, false, false] 6 #[false, true, true, true, false, true, true, true, true, false, true, true, true, true, false, false, false] (by kernel_rfl) (hbW) rfl (by kernel_rfl) (by kernel_rfl) rfl (by kernel_rfl) (by kernel_rfl) (by intro c a a' w e h; obtain ⟨t, d⟩ := a; obtain ⟨t', d'⟩ := a'; obtain rfl : d = d' := e; exact h) ?_
    intro hs
    simp only [pickB]
    repeat (go_big_quiet_step (fail))
    refine wpQuiet_nil ?_
    clear hs
    refine held_one (i := 0) (by kernel_rfl) fun K hK => ?_
    simp only [List.drop_succ_cons, List.drop_zero, List.take_succ_cons, List.take_zero]
    go_wp2_with fail
    have E1 := H1.out.drew.alloc [] 31
    try simp only [World.size_alloc, World.size_drew] at E1
    refine hK _ _ E1.below ?_
    clear hK K
    have E2 := E1.row_empty (size := 4) 0 rfl
    refine held_one (i := 4) (by kernel_rfl) fun K hK => ?_
    simp only [List.drop_succ_cons, List.drop_zero, List.take_succ_cons, List.take_zero]
    go_wp2_with (at_builtin; (refine wpList_appRd rfl (.tmp 16) (.tmp 19) _ rfl 31 i0 _ 4 40 Try.underlying27 hi hz hz1 hz2 rfl (by omega) 0 _ 0 [] rfl E2 rfl _ i _ (uns (l.take i)) rfl (by rw [uns_len]; simp; try omega) (R1.of_st E2) (fun e => by cases e) (uns_one _) (by omega) (by omega) ?_; intro wv5 w5 HA; (try simp only [Nat.zero_add, List.nil_append] at HA)))
    refine hK _ _ HA.below ?_
    clear hK K
    refine held_one (i := 9) (by kernel_rfl) fun K hK => ?_
    simp only [List.drop_succ_cons, List.drop_zero, List.take_succ_cons, List.take_zero]
    go_wp2_with (at_builtin; (refine wpList_appRd rfl (.tmp 20) (.tmp 24) _ rfl 31 i0 _ 4 40 Try.underlying27 hi hz hz1 hz2 rfl (by omega) 0 _ i (uns (l.take i)) rfl HA rfl _ _ _ (uns (l.drop (i + 1))) rfl (by rw [uns_len]; simp; try omega) (R2.of_st HA) (fun e => by cases e) (uns_one _) (by omega) (by omega) ?_; intro wv5 w5 HA; (try simp only [Nat.zero_add, List.nil_append] at HA)))
    refine hK _ _ HA.below ?_
    clear hK K
    obtain ⟨z5, k5, f5⟩ := HA.box 1 rfl
    refine held_one (i := 14) (by kernel_rfl) fun K hK => ?_
    simp only [List.drop_succ_cons, List.drop_zero, List.take_succ_cons, List.take_zero]
    go_wp2_with fail
    refine hK _ _ HA.below ?_
    clear hK K
    refine held_one (i := 15) (by kernel_rfl) fun K hK => ?_
    simp only [List.drop_succ_cons, List.drop_zero, List.take_succ_cons, List.take_zero]
    go_wp2_with fail
    have HS := ((((((((HA.front 1 rfl).set 0 rfl 0 (.int .i64 u0) (by simp))).set 0 rfl 1 (.int .i64 u1) (by simp))).set 0 rfl 2 (.int .i64 u2) (by simp))).set 0 rfl 3 (.string u3) (by simp))
    refine hK _ _ HS.below ?_
    clear hK K
    refine held_one (i := 16) (by kernel_rfl) fun K hK => ?_
    simp only [List.drop_succ_cons, List.drop_zero, List.take_succ_cons, List.take_zero]
    go_wp2_with fail
    refine hK _ _ HS.below ?_
    clear hK K
    refine held_done (by kernel_rfl) ?_
    obtain ⟨z6, k6, f6⟩ := HS.box 0 rfl
    have hlen : (l.take i ++ l.drop (i + 1)).length = i + (l.length - (i + 1)) := by simp; omega
    have HD := (HS.front 1 rfl).drops 1
    rw [show uns (l.take i) ++ uns (l.drop (i + 1)) = uns (l.take i ++ l.drop (i + 1)) from by simp [uns]] at HD
    replace HD := Lib.hid HD
    clear HS HA
    go_wp2_with fail
    refine bodyPost_ret (v := .tuple #[_, .agg #[.int .i64 u0, .int .i64 u1, .int .i64 u2, .string u3], .bool true]) (by simp [results, Try.results19, go_sem, k6, z6]; try rfl) rfl ⟨_, rfl, .inr ?_⟩
    rw [hlen]
    exact HD.out
end Go.Proofs.Ytfdijoaclpnccaa.Net
