/- The walk of the statement HoldOrder. -/
import Derived.Test.YticcedempclapaaHoldLaw
namespace Go.Proofs.Yticcedempclapaa.Hold
open Go Go.RowKit Go.Proofs.Yticcedempclapaa
attribute [local irreducible] Calls

def loF (l : List Int) : Int := l.foldl (fun m x => min m (clamp x 64)) 64
theorem fold_max_app (l : List Int) : ∀ m : Int, 0 ≤ m → l.foldl (fun m x => max m (clamp x 64)) m = max m (mostF l) := by
  induction l with
  | nil => intro m h; simp [mostF]; omega
  | cons x l ih =>
    intro m h
    have := clamp_bd x
    have e1 := ih (max m (clamp x 64)) (by omega)
    have e2 := ih (max 0 (clamp x 64)) (by omega)
    simp only [List.foldl_cons, mostF] at *
    omega
theorem fold_min_app (l : List Int) : ∀ m : Int, m ≤ 64 → l.foldl (fun m x => min m (clamp x 64)) m = min m (loF l) := by
  induction l with
  | nil => intro m h; simp [loF]; omega
  | cons x l ih =>
    intro m h
    have := clamp_bd x
    have e1 := ih (min m (clamp x 64)) (by omega)
    have e2 := ih (min 64 (clamp x 64)) (by omega)
    simp only [List.foldl_cons, loF] at *
    omega
theorem most_app (a b : List Int) : mostF (a ++ b) = max (mostF a) (mostF b) := by
  have := fold_max_app b (mostF a) (most_bd a).1
  rw [← this]; simp [mostF, List.foldl_append]
theorem lo_app (a b : List Int) : loF (a ++ b) = min (loF a) (loF b) := by
  have h : loF a ≤ 64 := by have := fold_min_bd a 64 (by omega); unfold loF; omega
  have := fold_min_app b (loF a) h
  rw [← this]; simp [loF, List.foldl_append]
theorem least_lo (l : List Int) : leastF l = min (mostF l) (loF l) := fold_min_app l _ (most_bd l).2
theorem lo_most (l : List Int) (h : l ≠ []) : loF l ≤ mostF l := by
  match l, h with
  | x :: l, _ =>
    have h1 := lo_app [x] l
    have h2 := most_app [x] l
    have h3 : loF [x] = min 64 (clamp x 64) := rfl
    have h4 : mostF [x] = max 0 (clamp x 64) := rfl
    have := clamp_bd x
    simp only [List.singleton_append] at h1 h2
    omega

theorem apart_turn (l : List Int) (s : Nat) : apartF (l.drop s ++ l.take s) = apartF l := by
  have h1 := most_app (l.drop s) (l.take s)
  have h2 := lo_app (l.drop s) (l.take s)
  have h3 := most_app (l.take s) (l.drop s)
  have h4 := lo_app (l.take s) (l.drop s)
  rw [List.take_append_drop] at h3 h4
  unfold apartF
  rw [least_lo, least_lo]
  omega
theorem most_turn (l : List Int) (s : Nat) : mostF (l.drop s ++ l.take s) = mostF l := by
  have h1 := most_app (l.drop s) (l.take s)
  have h3 := most_app (l.take s) (l.drop s)
  rw [List.take_append_drop] at h3
  omega
theorem for_turn (mode hold own : Int) (l : List Int) (s : Nat) : forF mode hold own (l.drop s ++ l.take s) = forF mode hold own l := by
  unfold forF gapF
  rw [apart_turn, most_turn]
theorem apart_wide (l : List Int) (x : Int) : apartF l ≤ apartF (l ++ [x]) := by
  have h1 := most_app l [x]
  have h2 := lo_app l [x]
  have h3 : loF [x] = min 64 (clamp x 64) := rfl
  have h4 : mostF [x] = max 0 (clamp x 64) := rfl
  have h5 := clamp_bd x
  have h6 := apart_bd (l ++ [x])
  by_cases h : l = []
  · subst h
    have : apartF [] = 0 := by decide
    omega
  · have h7 := lo_most l h
    unfold apartF at *
    rw [least_lo] at h6 ⊢
    rw [least_lo] at *
    omega
theorem for_wide (mode hold own : Int) (l : List Int) (x : Int) : forF mode hold own l ≤ forF mode hold own (l ++ [x]) := by
  have h1 := most_app l [x]
  have h2 := apart_wide l x
  unfold forF gapF
  (repeat' split) <;> omega
theorem for_longer (mode hold own : Int) (l : List Int) (hold' : Int) (h : hold' = if hold < 60 then hold + 1 else hold) : forF mode hold own l ≤ forF mode hold' own l := by
  subst h
  have : clamp hold 60 ≤ clamp (if hold < 60 then hold + 1 else hold) 60 := by unfold clamp; split <;> omega
  unfold forF
  split <;> omega

theorem turn_at (l : List Int) (s k : Nat) (hs : s < l.length) (hk : k < l.length) : (l.drop s ++ l.take s)[k]? = l[(k + s) % l.length]? := by
  by_cases h : k + s < l.length
  · rw [List.getElem?_append_left (by simp; omega), List.getElem?_drop, Nat.mod_eq_of_lt h, Nat.add_comm]
  · rw [List.getElem?_append_right (by simp; omega), List.length_drop, Nat.mod_eq_sub_mod (by omega), Nat.mod_eq_of_lt (by omega), List.getElem?_take]
    rw [if_pos (by omega)]
    congr 1
    omega
theorem apart_at (l : List Int) (n : Nat) (hl : l.length = n) (hn : n ≤ maxLen) (a : Option Addr) (cap : Nat) (w : World) (h : Rd w a (i64s l)) {v : Int} (e : apartF l = v) :
    Calls Try.prog 47 #[.slice a n cap] w (Ret w (.int .i64 v)) := by
  subst e
  exact apart_any l n hl hn a cap w h
theorem int_info : (Try.prog.info? 3).map (fun i => (i.zero, i.size, i.bytes)) = some (some (.int .i64 0), 1, 8) := by kernel_rfl
theorem i64s_one (l : List Int) : ∀ u ∈ i64s l, u.oneCell' = true := by
  intro u hu
  obtain ⟨x, _, rfl⟩ := List.mem_map.1 hu
  rfl
theorem i64s_ne {l : List Int} {n k : Nat} (h : l.length = n) (hk : k < n) : i64s l ≠ [] := by
  intro e
  have := congrArg List.length e
  simp [i64s] at this
  subst this
  simp at h
  omega
theorem i64s_len (l : List Int) : (i64s l).length = l.length := by simp [i64s]

set_option maxRecDepth 100000 in
set_option maxHeartbeats 1000000 in
theorem order_walk (a0 : Array Value) (own : Int) (w1 : (Lit.int .i64 own).wf = true) (a : Option Addr) (n cap : Nat) (turn : Int) (w3 : (Lit.int .i64 turn).wf = true) (more : Int) (w4 : (Lit.int .i64 more).wf = true) (w : World) (h0 : Fits w (.cons 1 (.int .i64) (.cons 1 (.int .i64) .nil)) a0.toList) (h2 : Fits w (.slice 1 (.int .i64)) [.slice a n cap]) :
    Calls Try.prog 13 #[.agg a0, .int .i64 own, .slice a n cap, .int .i64 turn, .int .i64 more] w (Ret w (.bool true)) := by
  obtain ⟨mode, hold, rfl, hm, hh⟩ := two_in h0
  obtain ⟨hh0, hh1⟩ := hh
  obtain ⟨hn', hnone, l, hl, _, hR⟩ := ints_in h2
  obtain ⟨i0, hi, hz, hz1, hz2⟩ := info_parts int_info
  have hn := hn'
  unfold maxLen at hn
  clear h0 h2
  have HN := Lib.hid hnone
  clear hnone
  have HL := Lib.hid hl
  clear hl
  have HR := Lib.hid hR
  clear hR
  go_enter Try.func13, Try.ntmps13
  go_wp2_with fail
  refine Calls.mono (works_law _) ?_
  rintro e w1 ⟨rfl, hb1⟩
  have z1 := Below.size hb1; try simp only [World.size_alloc, World.size_setCell, World.size_drew] at z1
  obtain ⟨c1_0, f1_0⟩ := Below.blk hb1 (b := w.heap.size) (by first | (simp; done) | omega | (simp; omega))
  have z1_0 : w.heap.size < w1.heap.size := (by first | (simp; done) | omega | (simp; omega))
  have H1 := ((St.zero w).alloc [.int .i64 mode, .int .i64 hold] 72).thru hb1
  by_cases h100 : 100 < n
  · have q : decide ((100 : Int) < n) = true := decide_eq_true (by omega)
    go_wp2_with fail
    go_ret
    exact Ret.mk rfl (by repeat (first | with_reducible exact Below.refl _ _ | (with_reducible refine Below.al ?_) | (with_reducible refine Below.drew ?_) | (with_reducible refine Below.set ?_ (by first | (simp; done) | omega | (simp; omega))) | (with_reducible refine Below.thru ?_ (by assumption)) | (with_reducible refine Below.chg ?_ (by assumption) (by first | (simp; done) | omega | (simp; omega)))))
  · have q : decide ((100 : Int) < n) = false := decide_eq_false (by omega)
    have HE := (H1.alloc [] 3).row_empty (size := 1) 0 rfl
    replace HE := Lib.hid HE
    have HRE : Rd (w1.alloc (.cells [].toArray 3)) a (i64s l) := HR.out.of_st HE.out
    replace HRE := Lib.hid HRE
    go_wp2_with (at_builtin; (refine wpList_appRd rfl (.tmp 21) (.tmp 22) _ rfl 3 i0 _ 1 8 Try.underlying73 hi hz hz1 hz2 rfl (by omega) 0 _ 0 [] rfl HE.out rfl a n cap (i64s l) rfl (by rw [i64s_len, HL.out, Nat.mul_one]) HRE.out HN.out (i64s_one l) (by omega) (by omega) ?_; intro v w2 H2))
    have H3 : St w none0 w2 [rowA 1 v n (i64s l), cellA w.heap.size [.int .i64 mode, .int .i64 hold]] := by have h := H2; rw [Nat.zero_add, List.nil_append] at h; exact h
    clear H2 HE HRE
    have H3 := Lib.hid H3
    obtain ⟨s, hs⟩ : ∃ s : Nat, n = 0 ∨ (s < n ∧ IntKind.u64.wrap turn % (n : Int) = (s : Int)) := by
      by_cases h : n = 0
      · exact ⟨0, .inl h⟩
      · have := Int.emod_nonneg (IntKind.u64.wrap turn) (show (n : Int) ≠ 0 by omega)
        have := Int.emod_lt_of_pos (IntKind.u64.wrap turn) (show 0 < (n : Int) by omega)
        exact ⟨(IntKind.u64.wrap turn % (n : Int)).toNat, .inr ⟨by omega, by omega⟩⟩
    have HS := Lib.hid hs
    clear hs
    have hu : 0 ≤ IntKind.u64.wrap turn ∧ IntKind.u64.wrap turn ≤ 18446744073709551615 := by rw [IntKind.wrap_u64]; omega
    go_wp2_with fail
    go_loopg [12, 13] n (fun g tv i wr => ∃ k : Nat, St w none0 wr [rowA 1 tv k (i64s ((l.drop s ++ l.take s).take k)), rowA 1 v n (i64s l), cellA w.heap.size [.int .i64 mode, .int .i64 hold]] ∧ g = n - k ∧ k ≤ n ∧ i = .int .i64 k)
    case atStart => exact ⟨0, H3.out.row_nil, rfl, by omega, rfl⟩
    case round =>
      obtain ⟨tv, htv⟩ : ∃ tv, tv = u12 := ⟨_, rfl⟩
      subst htv
      obtain ⟨k, hst, hg, hk, rfl⟩ := hrel
      by_cases hlt : k < n
      · obtain ⟨hsn, hs⟩ : s < n ∧ IntKind.u64.wrap turn % (n : Int) = (s : Int) := by
          rcases HS.out with h | h
          · omega
          · exact h
        obtain ⟨b, off, rfl, hb, hc⟩ := HR.out.cons (i64s_ne HL.out hlt)
        obtain ⟨j, hj, hjn⟩ : ∃ j : Nat, j = (k + s) % n ∧ j < n := ⟨_, rfl, Nat.mod_lt _ (by omega)⟩
        have hidx : (wrap64 (k + wrap64 (IntKind.u64.wrap turn % (n : Int)))).tmod n = (j : Int) := by
          rw [hs, IntWalk.wrap64_in (s : Int) (by omega), IntWalk.wrap64_in _ (by omega), Int.tmod_eq_emod_of_nonneg (by omega), hj, Int.natCast_emod, Int.natCast_add]
        have hjl : j < l.length := by have := HL.out; omega
        have hcell : wr.cell? ⟨b, off + j, none⟩ = some (.int .i64 l[j]) := ((hst.old hb id).1 _).trans (hc j _ (i64s_at hjl))
        have hnext : i64s ((l.drop s ++ l.take s).take k) ++ [.int .i64 l[j]] = i64s ((l.drop s ++ l.take s).take (k + 1)) := by
          have hlen : (l.drop s ++ l.take s).length = n := by have := HL.out; simp; omega
          have h1 := turn_at l s k (by have := HL.out; omega) (by have := HL.out; omega)
          rw [HL.out, ← hj, List.getElem?_eq_getElem hjl, List.getElem?_eq_getElem (by omega)] at h1
          rw [List.take_succ_eq_append_getElem (by omega)]
          simp only [Option.some.injEq] at h1
          simp [i64s, h1]
        generalize l[j] = y at *
        have hklen : (i64s ((l.drop s ++ l.take s).take k)).length = k := by have := HL.out; simp [i64s]; omega
        clear hc hjl hs hj
        replace hst := Lib.hid hst
        replace hnext := Lib.hid hnext; replace hklen := Lib.hid hklen
        go_wp2_with (at_builtin; (refine wpList_appS rfl (.tmp 30) (.tmp 46) _ rfl 3 i0 _ 1 8 Try.underlying73 hi hz hz1 hz2 rfl (by omega) 0 tv k _ rfl hst.out rfl 1 1 [.int .i64 y] rfl rfl (by intro u hu; simp at hu; subst hu; rfl) (by omega) (by omega) ?_; intro v' w5 H5))
        have H6 : St w none0 w5 [rowA 1 v' (k + 1) (i64s ((l.drop s ++ l.take s).take (k + 1))), rowA 1 v n (i64s l), cellA w.heap.size [.int .i64 mode, .int .i64 hold]] := by have h := H5; rw [hnext.out] at h; exact h
        clear H5
        replace H6 := Lib.hid H6
        go_wp2_with fail
        go_roundg (n - (k + 1))
        case measure => omega
        case rel => exact ⟨k + 1, H6.out, rfl, by omega, by go_num⟩
      · obtain rfl : k = n := by omega
        obtain ⟨R, hRl, hRa, hRf, hst⟩ : ∃ R : List Int, R.length = k ∧ apartF R = apartF l ∧ forF mode hold own R = forF mode hold own l ∧ St w none0 wr [rowA 1 tv k (i64s R), rowA 1 v k (i64s l), cellA w.heap.size [.int .i64 mode, .int .i64 hold]] := by
          have hlen : (l.drop s ++ l.take s).length = k := by have := HL.out; simp; omega
          rw [List.take_of_length_le (by omega)] at hst
          exact ⟨_, hlen, apart_turn l s, for_turn mode hold own l s, hst⟩
        obtain ⟨at1, ct, rfl, _, _, hRt⟩ := (hst.row 0 rfl).rd (by omega)
        obtain ⟨av, cv, rfl, _, _, hRv⟩ := (hst.row 1 rfl).rd (by omega)
        obtain ⟨zb, cb, fb⟩ := hst.box 2 rfl
        have N1 := Lib.hid (fun t : Near wr.heap.size wr => hRt.below t.near)
        have N2 := Lib.hid (fun t : Near wr.heap.size wr => hRv.below t.near)
        replace hst := Lib.hid hst
        have HV := Lib.hid hRv
        clear H3 hRt hRv
        replace hRl := Lib.hid hRl; replace hRa := Lib.hid hRa; replace hRf := Lib.hid hRf
        go_wp2_with fail
        refine wp_region_near (by kernel_rfl) (by kernel_rfl) ?_
        intro hs
        repeat (go_big_quiet_step ((first | (go_at_call 47; exact Calls.near (by simp) (apart_at R k hRl.out hn' at1 ct _ (N1.out _) hRa.out)) | (go_at_call 47; exact Calls.near (by simp) (apart_any l k HL.out hn' av cv _ (N2.out _))) | (go_at_call 49; exact Calls.near (by simp) (for_at _ _ _ R k hRl.out hn' at1 ct _ (N1.out _) hRf.out)) | (go_at_call 49; exact Calls.near (by simp) (for_any _ _ _ l k HL.out hn' av cv _ (N2.out _))))))
        refine wpQuiet_nil ?_
        clear hs
        intro w7 hb7
        have H7 := hst.out.thru hb7
        obtain ⟨z7, c7, f7⟩ := H7.box 2 rfl
        replace H7 := Lib.hid H7
        have G1 := for_wide mode hold own l more
        have G2 := apart_wide l more
        have q1 : decide (apartF l ≤ apartF (l ++ [more])) = true := decide_eq_true G2
        have q2 : decide (forF mode hold own l ≤ forF mode hold own (l ++ [more])) = true := decide_eq_true G1
        have G3 := for_longer mode hold own l
        by_cases hq : hold < 60
        · have q3 : decide (hold < 60) = true := decide_eq_true hq
          have q4 : decide (forF mode hold own l ≤ forF mode (hold + 1) own l) = true := decide_eq_true (G3 _ (by rw [if_pos hq]))
          clear G1 G2 G3
          have HW : St w none0 ((w7.alloc (.cells [.int .i64 mode, .int .i64 (hold + 1)].toArray 72)).alloc (.cells [].toArray 3)) [rowA 1 (.slice (some ⟨(w7.alloc (.cells [.int .i64 mode, .int .i64 (hold + 1)].toArray 72)).heap.size, 0, none⟩) 0 0) 0 [], cellA w7.heap.size [.int .i64 mode, .int .i64 (hold + 1)], rowA 1 (.slice at1 k ct) k (i64s R), rowA 1 (.slice av k cv) k (i64s l), cellA w.heap.size [.int .i64 mode, .int .i64 hold]] := ((H7.out.alloc [.int .i64 mode, .int .i64 (hold + 1)] 72).alloc [] 3).row_empty (size := 1) 0 rfl
          have HRW := HR.out.of_st HW
          rw [World.size_alloc] at HW
          replace HW := Lib.hid HW; replace HRW := Lib.hid HRW
          go_wp2_with (at_builtin; first
            | (refine wpList_appRd rfl (.tmp 72) (.tmp 73) _ rfl 3 i0 _ 1 8 Try.underlying73 hi hz hz1 hz2 rfl (by omega) 0 _ 0 [] rfl HW.out rfl a k cap (i64s l) rfl (by rw [i64s_len, HL.out, Nat.mul_one]) HRW.out HN.out (i64s_one l) (by omega) (by omega) ?_; intro v2 w8 H8; have H8 : Hid (St w none0 w8 (rowA 1 v2 (0 + k) ([] ++ i64s l) :: [cellA w7.heap.size [.int .i64 mode, .int .i64 (hold + 1)], rowA 1 (.slice at1 k ct) k (i64s R), rowA 1 (.slice av k cv) k (i64s l), cellA w.heap.size [.int .i64 mode, .int .i64 hold]])) := H8; rw [Nat.zero_add, List.nil_append] at H8)
            | (refine wpList_appS rfl (.tmp 74) (.tmp 76) _ rfl 3 i0 _ 1 8 Try.underlying73 hi hz hz1 hz2 rfl (by omega) 0 v2 k (i64s l) rfl H8.out rfl 1 1 [.int .i64 more] rfl rfl (by intro u hu; simp at hu; subst hu; rfl) (by omega) (by omega) ?_; intro v3 w9 H9; have H9 : Hid (St w none0 w9 (rowA 1 v3 (k + 1) (i64s l ++ [.int .i64 more]) :: [cellA w7.heap.size [.int .i64 mode, .int .i64 (hold + 1)], rowA 1 (.slice at1 k ct) k (i64s R), rowA 1 (.slice av k cv) k (i64s l), cellA w.heap.size [.int .i64 mode, .int .i64 hold]])) := H9))
          rw [show i64s l ++ [Value.int .i64 more] = i64s (l ++ [more]) from by simp [i64s]] at H9
          obtain ⟨a3, c3, rfl, hn9, _, hR9⟩ := (H9.out.row 0 rfl).rd (by omega)
          obtain ⟨_, _, e9, _, _, hRv⟩ := (H9.out.row 3 rfl).rd (by omega)
          cases e9
          obtain ⟨zl, cl, fl⟩ := H9.out.box 1 rfl
          obtain ⟨zt, cct, ft⟩ := H9.out.box 4 rfl
          have hl9 : (l ++ [more]).length = k + 1 := by have := HL.out; simp; omega
          have N3 := Lib.hid (fun t : Near w9.heap.size w9 => hR9.below t.near)
          have N4 := Lib.hid (fun t : Near w9.heap.size w9 => hRv.below t.near)
          clear hR9 hRv
          replace hl9 := Lib.hid hl9
          go_wp2_with fail
          refine wp_region_near (by kernel_rfl) (by kernel_rfl) ?_
          intro hs
          repeat (go_big_quiet_step ((first | (go_at_call 47; exact Calls.near (by simp) (apart_any (l ++ [more]) (k + 1) hl9.out hn9 a3 c3 _ (N3.out _))) | (go_at_call 47; exact Calls.near (by simp) (apart_any l k HL.out hn' av cv _ (N4.out _))) | (go_at_call 49; exact Calls.near (by simp) (for_any _ _ _ (l ++ [more]) (k + 1) hl9.out hn9 a3 c3 _ (N3.out _))) | (go_at_call 49; exact Calls.near (by simp) (for_any _ _ _ l k HL.out hn' av cv _ (N4.out _))))))
          refine wpQuiet_nil ?_
          clear hs
          intro w10 hb10
          have H10 := H9.out.thru hb10
          go_wp2_with fail
          go_ret
          exact H10.ret rfl
        · have q3 : decide (hold < 60) = false := decide_eq_false hq
          have q4 : decide (forF mode hold own l ≤ forF mode (hold) own l) = true := decide_eq_true (G3 _ (by rw [if_neg hq]))
          clear G1 G2 G3
          have HW : St w none0 ((w7.alloc (.cells [.int .i64 mode, .int .i64 (hold)].toArray 72)).alloc (.cells [].toArray 3)) [rowA 1 (.slice (some ⟨(w7.alloc (.cells [.int .i64 mode, .int .i64 (hold)].toArray 72)).heap.size, 0, none⟩) 0 0) 0 [], cellA w7.heap.size [.int .i64 mode, .int .i64 (hold)], rowA 1 (.slice at1 k ct) k (i64s R), rowA 1 (.slice av k cv) k (i64s l), cellA w.heap.size [.int .i64 mode, .int .i64 hold]] := ((H7.out.alloc [.int .i64 mode, .int .i64 (hold)] 72).alloc [] 3).row_empty (size := 1) 0 rfl
          have HRW := HR.out.of_st HW
          rw [World.size_alloc] at HW
          replace HW := Lib.hid HW; replace HRW := Lib.hid HRW
          go_wp2_with (at_builtin; first
            | (refine wpList_appRd rfl (.tmp 72) (.tmp 73) _ rfl 3 i0 _ 1 8 Try.underlying73 hi hz hz1 hz2 rfl (by omega) 0 _ 0 [] rfl HW.out rfl a k cap (i64s l) rfl (by rw [i64s_len, HL.out, Nat.mul_one]) HRW.out HN.out (i64s_one l) (by omega) (by omega) ?_; intro v2 w8 H8; have H8 : Hid (St w none0 w8 (rowA 1 v2 (0 + k) ([] ++ i64s l) :: [cellA w7.heap.size [.int .i64 mode, .int .i64 (hold)], rowA 1 (.slice at1 k ct) k (i64s R), rowA 1 (.slice av k cv) k (i64s l), cellA w.heap.size [.int .i64 mode, .int .i64 hold]])) := H8; rw [Nat.zero_add, List.nil_append] at H8)
            | (refine wpList_appS rfl (.tmp 74) (.tmp 76) _ rfl 3 i0 _ 1 8 Try.underlying73 hi hz hz1 hz2 rfl (by omega) 0 v2 k (i64s l) rfl H8.out rfl 1 1 [.int .i64 more] rfl rfl (by intro u hu; simp at hu; subst hu; rfl) (by omega) (by omega) ?_; intro v3 w9 H9; have H9 : Hid (St w none0 w9 (rowA 1 v3 (k + 1) (i64s l ++ [.int .i64 more]) :: [cellA w7.heap.size [.int .i64 mode, .int .i64 (hold)], rowA 1 (.slice at1 k ct) k (i64s R), rowA 1 (.slice av k cv) k (i64s l), cellA w.heap.size [.int .i64 mode, .int .i64 hold]])) := H9))
          rw [show i64s l ++ [Value.int .i64 more] = i64s (l ++ [more]) from by simp [i64s]] at H9
          obtain ⟨a3, c3, rfl, hn9, _, hR9⟩ := (H9.out.row 0 rfl).rd (by omega)
          obtain ⟨_, _, e9, _, _, hRv⟩ := (H9.out.row 3 rfl).rd (by omega)
          cases e9
          obtain ⟨zl, cl, fl⟩ := H9.out.box 1 rfl
          obtain ⟨zt, cct, ft⟩ := H9.out.box 4 rfl
          have hl9 : (l ++ [more]).length = k + 1 := by have := HL.out; simp; omega
          have N3 := Lib.hid (fun t : Near w9.heap.size w9 => hR9.below t.near)
          have N4 := Lib.hid (fun t : Near w9.heap.size w9 => hRv.below t.near)
          clear hR9 hRv
          replace hl9 := Lib.hid hl9
          go_wp2_with fail
          refine wp_region_near (by kernel_rfl) (by kernel_rfl) ?_
          intro hs
          repeat (go_big_quiet_step ((first | (go_at_call 47; exact Calls.near (by simp) (apart_any (l ++ [more]) (k + 1) hl9.out hn9 a3 c3 _ (N3.out _))) | (go_at_call 47; exact Calls.near (by simp) (apart_any l k HL.out hn' av cv _ (N4.out _))) | (go_at_call 49; exact Calls.near (by simp) (for_any _ _ _ (l ++ [more]) (k + 1) hl9.out hn9 a3 c3 _ (N3.out _))) | (go_at_call 49; exact Calls.near (by simp) (for_any _ _ _ l k HL.out hn' av cv _ (N4.out _))))))
          refine wpQuiet_nil ?_
          clear hs
          intro w10 hb10
          have H10 := H9.out.thru hb10
          go_wp2_with fail
          go_ret
          exact H10.ret rfl
end Go.Proofs.Yticcedempclapaa.Hold
