/- The walk of the statement OptsGet. -/
import Derived.Test.YtljgmephajocaaaOptsLaw
import Derived.Test.YtljgmephajocaaaFits
namespace Go.Proofs.Ytljgmephajocaaa.Opts
set_option linter.unusedSimpArgs false
set_option linter.unusedVariables false
open Go Go.RowKit Go.Shelf Go.Proofs.Ytljgmephajocaaa
attribute [local irreducible] Calls

def got (l : List UInt8) : List El := if getE l = 0 then (readL l).1 else []
theorem GetS.st {l : List UInt8} {w w' : World} {e : Ending} (h : GetS l w e w') : ∃ v, e = .returned (.tuple #[v, .int .i64 (getE l)]) ∧ St w none0 w' [rowA 2 v (got l).length (encs (got l))] := by
  obtain ⟨v, rfl, h⟩ := h
  refine ⟨v, rfl, ?_⟩
  unfold got
  split at h
  · rename_i h0
    rw [if_pos h0]
    exact h
  · rename_i h0
    rw [if_neg h0]
    obtain ⟨rfl, hb⟩ := h
    exact ((St.zero w).thru hb).row_nil (size := 2)
theorem got_few {l : List UInt8} (h : l.length ≤ 3000) : Few (got l) := by
  unfold got
  split
  · exact readL_few h
  · exact ⟨by simp, fun x hx => by cases hx⟩
theorem Rd.left {w : World} {a : Option Addr} {xs ys : List Value} (h : Rd w a (xs ++ ys)) : Rd w a xs := by
  rcases h with h | ⟨b, off, e, hb, hc⟩
  · exact .inl (List.append_eq_nil_iff.1 h).1
  · exact .inr ⟨b, off, e, hb, fun j u hu => hc j u (by rw [List.getElem?_append_left (List.getElem?_eq_some_iff.1 hu).1]; exact hu)⟩
theorem rd_take {w : World} {a : Option Addr} {l : List El} (h : Rd w a (encs l)) (k : Nat) : Rd w a (encs (l.take k)) := by
  have e : encs l = encs (l.take k) ++ encs (l.drop k) := by
    unfold encs
    rw [← List.flatMap_append, List.take_append_drop]
  rw [e] at h
  exact Rd.left h

/-- What is told till one has enough is the beginning of all. -/
theorem walkF_more (q : List El → Bool) : ∀ (f : Nat) (told : List El) (l : List UInt8), ∃ m, (walkF q f told l).1 = told ++ m
  | 0, told, l => ⟨[], by simp [walkF]⟩
  | f + 1, told, [] => ⟨[], by simp [walkF]⟩
  | f + 1, told, k :: t => by
    simp only [walkF]
    split
    · exact ⟨[], by simp⟩
    · split
      · exact walkF_more q f told _
      · split
        · obtain ⟨m, h⟩ := walkF_more q f (told ++ [(rd1 (k :: t)).1]) (rd1 (k :: t)).2.1
          exact ⟨[(rd1 (k :: t)).1] ++ m, by rw [h, List.append_assoc]⟩
        · exact ⟨_, rfl⟩
def less (most : Int) (told : List El) : Bool := decide ((told.length : Int) < most)
theorem walkF_less (most : Int) : ∀ (f : Nat) (told : List El) (l : List UInt8), (told.length : Int) < max most 1 →
    (walkF (less most) f told l).1 = ((walkF (fun _ => true) f told l).1).take (max most 1).toNat
  | 0, told, l, h => by simp only [walkF]; rw [List.take_of_length_le (by omega)]
  | f + 1, told, [], h => by simp only [walkF]; rw [List.take_of_length_le (by omega)]
  | f + 1, told, k :: t, h => by
    simp only [walkF]
    split
    · rw [List.take_of_length_le (by simp only; omega)]
    · split
      · exact walkF_less most f told _ h
      · simp only [if_true]
        split
        · rename_i hq
          unfold less at hq
          rw [decide_eq_true_eq] at hq
          exact walkF_less most f _ _ (by omega)
        · rename_i hq
          unfold less at hq
          rw [decide_eq_true_eq] at hq
          simp only [List.length_append, List.length_cons, List.length_nil] at hq
          obtain ⟨m, hm⟩ := walkF_more (fun _ => true) f (told ++ [(rd1 (k :: t)).1]) (rd1 (k :: t)).2.1
          rw [hm, List.take_left' (by simp; omega)]

set_option maxRecDepth 100000 in
theorem tell_law (b m : Nat) (most : Int) (told : List El) (x : El) (w : World) (W : World) (S0 : Nat → Prop) (r : List Asn) (H0 : St W S0 w (listA b told :: cellA m [.int .i64 most] :: r)) (hn : told.length ≤ 3000) :
    Calls Try.prog 44 #[val x, .pointer (some ⟨b, 0, none⟩), .pointer (some ⟨m, 0, none⟩)] w (Fin W S0 (.bool (less most (told ++ [x]))) (listA b (told ++ [x]) :: cellA m [.int .i64 most] :: r)) := by
  obtain ⟨i0, hi, hz, hz1, hz2⟩ := info_parts el_info
  obtain ⟨a, cap, H⟩ := list_parts H0
  obtain ⟨z, c, f⟩ := H.box 0 rfl
  have H1 := H.skip (.cells #[.int .i64 x.1, .string x.2] 73)
  have hq : less most (told ++ [x]) = decide ((told.length : Int) + 1 < most) := by unfold less; rw [List.length_append]; simp
  have hnm : ¬ b = m := H.ne_cells 0 2 rfl rfl (by omega)
  have hnm2 : ¬ m = b := fun e => hnm e.symm
  rw [hq]
  clear H0 H hq
  unfold val
  replace H1 := Lib.hid H1
  go_enter Try.func44, Try.ntmps44
  go_wp2_with (at_builtin; (refine wpList_appS rfl (.tmp 5) (.tmp 7) _ rfl 73 i0 _ 2 24 Try.underlying62 hi hz hz1 hz2 rfl (by omega) 1 _ told.length _ rfl H1.out rfl 1 1 [.int .i64 x.1, .string x.2] rfl rfl (by simp [Value.oneCell']) (by omega) (by omega) ?_; intro wv5 w5 H6; obtain ⟨a6, c6, rfl, _⟩ := St.slice (by omega) 0 H6 rfl; obtain ⟨z6, k6, f6⟩ := H6.box 1 rfl; obtain ⟨z7, k7, f7⟩ := H6.box 2 rfl; have H7 := list_shut ((((rows_up (x := x) H6).front 1 rfl).set 0 rfl 0 (.slice a6 (told.length + 1) c6) (by simp))); replace H7 := Lib.hid H7; replace H6 := Lib.hid H6))
  go_ret
  exact ⟨rfl, H7.out⟩
theorem each_new (s : ByteArray) (w : World) : Calls Try.prog 43 #[.string s] w (fun e w' => ∃ b, e = .returned (.func (.func 99) #[] #[.pointer (some ⟨b, 0, none⟩)]) ∧ St w none0 w' [cellA b [.string s]]) := by
  have H := (St.zero w).alloc [.string s] 9
  replace H := Lib.hid H
  go_enter Try.func43, Try.ntmps43
  go_wp2_with fail
  go_ret
  exact ⟨_, rfl, H.out⟩
set_option maxRecDepth 100000 in
theorem each_tell (q : List El → Bool) (F : Nat) (caps : Array Value) (hG : ∀ args w, (callFunc F args).run Try.prog w = .ok (.enter F args) w) (w0 : World) (S0 : Nat → Prop) (A : List El → List Asn)
    (hcall : ∀ (told : List El) (x : El) (W : World), St w0 S0 W (A told) → told.length ≤ 3000 → isI64 x.1 → x.2.size ≤ 3000 → Calls Try.prog F (#[val x] ++ caps) W (Fin w0 S0 (.bool (q (told ++ [x]))) (A (told ++ [x]))))
    (s : ByteArray) (hs : s.size ≤ 3000) (w : World) (H : St w0 S0 w (A [])) (b k : Nat) (hk : (A [])[k]? = some (cellA b [.string s])) :
    Calls Try.prog 99 #[.func (.func F) #[] caps, .pointer (some ⟨b, 0, none⟩)] w (Fin w0 S0 (.tuple #[]) (A (walkF q s.size [] s.data.toList).1)) := by
  obtain ⟨z, c, f⟩ := H.box k hk
  have P := walk_any q F caps hG w0 S0 A hcall s hs w H
  clear H hcall
  go_enter Try.func99, Try.ntmps99
  go_wp2_with fail
  refine Calls.mono P ?_
  rintro e w1 ⟨rfl, H1⟩
  replace H1 := Lib.hid H1
  go_wp2_with fail
  go_end0
  exact ⟨rfl, H1.out⟩

set_option maxRecDepth 100000 in
set_option maxHeartbeats 1600000 in
theorem get_walk (s : ByteArray) (hs : s.size ≤ maxLen) (most : Int) (w1 : (Lit.int .i64 most).wf = true) (w : World) : Calls Try.prog 7 #[.string s, .int .i64 most] w (Ret w (.bool true)) := by
  unfold maxLen at hs
  have hm64 := bounds_i64 w1
  clear w1
  have H0 := (St.zero w).alloc [.int .i64 most] 3
  replace H0 := Lib.hid H0
  go_enter Try.func7, Try.ntmps7
  go_wp2_with fail
  refine Calls.mono (works_law _) ?_
  rintro e w1 ⟨rfl, hb1⟩
  have H1 := H0.out.thru hb1
  clear H0
  replace H1 := Lib.hid H1
  by_cases h2000 : 2000 < s.size
  · have q : decide ((2000 : Int) < s.size) = true := decide_eq_true (by omega)
    go_wp2_with fail
    go_ret
    exact H1.out.ret rfl
  · have qq : decide ((2000 : Int) < s.size) = false := decide_eq_false (by omega)
    have hs2 : s.size ≤ 3000 := by omega
    have hsl : s.data.toList.length = s.size := by simp
    have P := fun w1 => get_any s hs2 w1
    have P2 := fun w1 => rget_any s hs2 w1
    have P3 := fun w1 => read_any s hs2 w1
    go_wp2_with fail
    refine Calls.mono (P _) ?_
    intro e w2 h2
    obtain ⟨v, rfl, H2⟩ := h2.st
    have H3 := H1.out.add H2
    clear H2 h2 P H1
    obtain ⟨a1, c1, rfl, _⟩ := St.slice (by omega) 0 H3 rfl
    replace H3 := Lib.hid H3
    go_wp2_with fail
    refine Calls.mono (P2 _) ?_
    intro e w3 h3
    obtain ⟨v, rfl, H4⟩ := h3.st
    have H5 := H3.out.add H4
    clear H4 h3 P2 H3
    obtain ⟨a2, c2, rfl, _⟩ := St.slice (by omega) 0 H5 rfl
    replace H5 := Lib.hid H5
    go_wp2_with fail
    refine Calls.mono (P3 _) ?_
    rintro e w4 ⟨v, rfl, H6⟩
    have H7 := H5.out.add H6
    clear H6 P3 H5
    obtain ⟨a3, c3, rfl, _⟩ := St.slice (by omega) 0 H7 rfl
    have H8 := list_shut (l := []) ((H7.row_nil (size := 2)).alloc [.slice none 0 0] 62)
    clear H7
    replace H8 := Lib.hid H8
    go_wp2_with fail
    refine Calls.mono (each_new s _) ?_
    rintro e w5 ⟨bs, rfl, H9⟩
    have H10 := (H8.out.add H9).arr [1, 5, 0, 2, 3, 4] rfl
    clear H9 H8
    have nf := run_eql_func (P := Try.prog) 70 (by kernel_rfl) (.func 99) #[] #[.pointer (some ⟨bs, 0, none⟩)]
    have P := each_tell (less most) 44 #[.pointer (some ⟨w4.heap.size, 0, none⟩), .pointer (some ⟨w.heap.size, 0, none⟩)] (enters_of Try.func44 (by kernel_rfl) rfl) w none0
      (fun l => listA w4.heap.size l :: cellA w.heap.size [.int .i64 most] :: [cellA bs [.string s], rowA 2 (.slice a3 (readL s.data.toList).1.length c3) (readL s.data.toList).1.length (encs (readL s.data.toList).1), rowA 2 (.slice a2 (got s.data.toList).length c2) (got s.data.toList).length (encs (got s.data.toList)), rowA 2 (.slice a1 (got s.data.toList).length c1) (got s.data.toList).length (encs (got s.data.toList))])
      (fun told x W hW hn _ _ => tell_law _ _ most told x W w none0 _ hW hn) s hs2 w5 H10 bs 2 rfl
    have hwl : (walkF (less most) s.size [] s.data.toList).1 = (readL s.data.toList).1.take (max most 1).toNat := by
      rw [walkF_less most s.size [] s.data.toList (by simp; omega)]
      unfold readL
      rw [hsl]
    rw [hwl] at P
    have hrf := readL_few (l := s.data.toList) (by omega)
    have hgf := got_few (l := s.data.toList) (by omega)
    clear hwl H10 hsl
    generalize readL s.data.toList = RL at *
    obtain ⟨L, er⟩ := RL
    generalize got s.data.toList = G at *
    generalize getE s.data.toList = ge at *
    simp only at P hrf
    have hkk : ∃ k : Nat, min (L.length : Int) (max most 1) = (k : Int) ∧ k ≤ L.length ∧ L.take (max most 1).toNat = L.take k := by
      refine ⟨min L.length (max most 1).toNat, by omega, by omega, ?_⟩
      rw [List.take_eq_take_iff]
      omega
    obtain ⟨k, hk1, hk2, hk3⟩ := hkk
    rw [hk3] at P
    clear hk3
    have hge : (ge == ge) = true := by simp
    go_wp2_with fail
    refine Calls.mono P ?_
    rintro e w6 ⟨rfl, H11⟩
    clear P
    obtain ⟨a4, c4, H12⟩ := list_parts H11
    obtain ⟨z12, k12, f12⟩ := H12.box 0 rfl
    obtain ⟨z13, k13, f13⟩ := H12.box 2 rfl
    obtain ⟨hc3, _⟩ : L.length ≤ c3 ∧ True := by
      obtain ⟨_, h⟩ := H12.row 4 rfl
      rcases h with ⟨e, h0⟩ | ⟨_, _, _, e, _, _, h, _⟩
      · exact ⟨by omega, trivial⟩
      · injection e with _ _ e; subst e; exact ⟨h, trivial⟩
    have R1 := St.rd (by omega) 6 H12 rfl
    have R2 := St.rd (by omega) 5 H12 rfl
    have R3 := St.rd (by omega) 1 H12 rfl
    have R4 := rd_take (St.rd (by omega) 4 H12 rfl) k
    have hlk : (L.take k).length = k := by rw [List.length_take]; omega
    have S1 : ∀ W', Below w6.heap.size w6 W' → Calls Try.prog 40 #[.slice a1 G.length c1, .slice a2 G.length c2] W' (Ret W' (.bool true)) := fun W' hW => by
      have := same_any G G G.length G.length rfl rfl hgf.1 hgf.1 a1 a2 c1 c2 W' (R1.below hW) (R2.below hW)
      rwa [sameL_self] at this
    have S2 : ∀ W', Below w6.heap.size w6 W' → Calls Try.prog 40 #[.slice a4 (L.take k).length c4, .slice a3 k c3] W' (Ret W' (.bool true)) := fun W' hW => by
      have := same_any (L.take k) (L.take k) (L.take k).length k rfl hlk (by have := hrf.1; omega) (by have := hrf.1; omega) a4 a3 c4 c3 W' (R3.below hW) (R4.below hW)
      rwa [sameL_self] at this
    rw [hlk] at k12 S2
    have hk4 : k ≤ c3 := by omega
    have hgl := hgf.1
    have hll := hrf.1
    have H13 := H12.below
    clear H11 H12 R1 R2 R3 R4 hrf hgf
    replace S1 := Lib.hid S1; replace S2 := Lib.hid S2; replace H13 := Lib.hid H13
    go_wp2_with fail
    refine wp_region_near (by kernel_rfl) (by kernel_rfl) ?_
    intro hs
    repeat (go_big_quiet_step ((first | (go_at_call 40; exact Calls.near (by simp) (S1.out _ (Near.near _))) | (go_at_call 40; exact Calls.near (by simp) (S2.out _ (Near.near _))))))
    refine wpQuiet_nil ?_
    clear hs
    intro w9 hb9
    have hbf := H13.out.trans (hb9.mono H13.out.size)
    clear S1 S2 hb9
    go_wp2_with fail
    go_ret
    exact Ret.mk rfl hbf
end Go.Proofs.Ytljgmephajocaaa.Opts
