/- The walk of the package dock's Sweep, whatever question is asked, at a type of elements that lie in one slot. -/
import Derived.Test.YtpajedpkdfacoaaDockIterPtr
namespace Go.Proofs.Ytpajedpkdfacoaa.DockSPtr
set_option linter.unusedSimpArgs false
set_option linter.unusedVariables false
open Go Go.RowKit Go.Shelf Go.Proofs.Ytpajedpkdfacoaa Go.Proofs.Ytpajedpkdfacoaa.DelPtr
attribute [local irreducible] Calls
attribute [local go_sem] Oper.semAt_some

/-- Of 'suf', behind 'pre', those to which the answer is yes, and those to which it is no. -/
def outs (pr : List El → El → Bool) : List El → List El → List El
  | _, [] => []
  | pre, x :: s => (if pr pre x then [x] else []) ++ outs pr (pre ++ [x]) s
def rests (pr : List El → El → Bool) : List El → List El → List El
  | _, [] => []
  | pre, x :: s => (if pr pre x then [] else [x]) ++ rests pr (pre ++ [x]) s
theorem outs_snoc (pr : List El → El → Bool) (x : El) : ∀ (l pre : List El), outs pr pre (l ++ [x]) = outs pr pre l ++ (if pr (pre ++ l) x then [x] else [])
  | [], pre => by simp [outs]
  | y :: l, pre => by simp only [List.cons_append, outs]; rw [outs_snoc pr x l (pre ++ [y])]; simp
theorem rests_snoc (pr : List El → El → Bool) (x : El) : ∀ (l pre : List El), rests pr pre (l ++ [x]) = rests pr pre l ++ (if pr (pre ++ l) x then [] else [x])
  | [], pre => by simp [rests]
  | y :: l, pre => by simp only [List.cons_append, rests]; rw [rests_snoc pr x l (pre ++ [y])]; simp
theorem outs_len (pr : List El → El → Bool) : ∀ (l pre : List El), (outs pr pre l).length + (rests pr pre l).length = l.length
  | [], _ => rfl
  | x :: l, pre => by
    have := outs_len pr l (pre ++ [x])
    simp only [outs, rests, List.length_append, List.length_cons]
    split <;> simp <;> omega

/-- The parts of a sweep under way. -/
def swA (ob rb gb : Nat) (gv : Value) (pr : List El → El → Bool) (J : List El → Asn) (pre : List El) : List Asn :=
  [exA fun q : Value × Value => sepA [cellA ob [q.1], rowA 1 q.1 (outs pr [] pre).length (encs (outs pr [] pre)), cellA rb [q.2], rowA 1 q.2 (rests pr [] pre).length (encs (rests pr [] pre)), cellA gb [gv], J pre]]
theorem sw_parts {W w : World} {S : Nat → Prop} {ob rb gb : Nat} {gv : Value} {pr : List El → El → Bool} {J : List El → Asn} {pre : List El} {p : List Asn} (h : St W S w (p ++ swA ob rb gb gv pr J pre)) :
    ∃ ov rv, St W S w (cellA ob [ov] :: rowA 1 ov (outs pr [] pre).length (encs (outs pr [] pre)) :: cellA rb [rv] :: rowA 1 rv (rests pr [] pre).length (encs (rests pr [] pre)) :: cellA gb [gv] :: J pre :: p) := by
  have h' := h.perm List.perm_append_comm
  obtain ⟨q, h1⟩ := St.unex 0 h' rfl
  exact ⟨q.1, q.2, St.unsep 0 h1 rfl⟩
theorem sw_shut {W w : World} {S : Nat → Prop} {ob rb gb : Nat} {gv ov rv : Value} {pr : List El → El → Bool} {J : List El → Asn} {pre : List El} {p : List Asn}
    (h : St W S w (cellA ob [ov] :: rowA 1 ov (outs pr [] pre).length (encs (outs pr [] pre)) :: cellA rb [rv] :: rowA 1 rv (rests pr [] pre).length (encs (rests pr [] pre)) :: cellA gb [gv] :: J pre :: p)) : St W S w (p ++ swA ob rb gb gv pr J pre) :=
  (St.ex (fun q : Value × Value => sepA [cellA ob [q.1], rowA 1 q.1 (outs pr [] pre).length (encs (outs pr [] pre)), cellA rb [q.2], rowA 1 q.2 (rests pr [] pre).length (encs (rests pr [] pre)), cellA gb [gv], J pre]) (ov, rv) (St.join [_, _, _, _, _, _] p h)).perm (List.perm_append_comm (l₁ := [_]))

set_option maxRecDepth 100000 in
set_option maxHeartbeats 1000000 in
theorem sweep_with (d : Nat) (most : Int) (l : List El) (hl2 : l.length ≤ 100000) (G : Nat) (caps : Array Value) (hG : ∀ args w, (callFunc G args).run Try.prog w = .ok (.enter G args) w) (pr : List El → El → Bool) (J : List El → Asn) (w : World) (S : Nat → Prop)
    (hcall : ∀ pre x suf (w' : World) (S' : Nat → Prop), l = pre ++ x :: suf → Only w w' S → (J pre).holds w' S' → Calls Try.prog G (#[val x] ++ caps) w' (Fin w' S' (.bool (pr pre x)) [J (pre ++ [x])]))
    (h : (sepA [dockA d most l, J []]).holds w S) :
    Calls Try.prog 115 #[.pointer (some ⟨d, 0, none⟩), .func (.func G) #[] caps] w (fun e w' => ∃ v, e = .returned v ∧ St w S w' [rowA 1 v (outs pr [] l).length (encs (outs pr [] l)), dockA d most (rests pr [] l), J l]) := by
  obtain ⟨i0, hi, hz, hz1, hz2⟩ := info_parts el_info
  have H0 := St.unsep 0 (St.start (Sep.one h)) rfl
  have H1 := (((H0.alloc [.func (.func G) #[] caps] 162).row_nil (size := 1)).row_nil (size := 1)).alloc [.slice none 0 0] 160
  have H2 := H1.alloc [.slice none 0 0] 160
  simp only [World.size_alloc] at H2
  have nf := run_eql_func (P := Try.prog) 162 (by kernel_rfl) (.func G) #[] caps
  clear h H0 H1
  replace H2 := Lib.hid H2; replace hcall := Lib.hid hcall
  refine callsIn_wide.1 (callsIn_of_wp_marks (n := 10) Try.func115 rfl trivial ?_ rfl)
  simp only [Try.ntmps115, List.size_toArray, List.length_cons, List.length_nil, Nat.reduceAdd, Nat.reduceSub, Array.replicate_succ, Array.replicate_zero, List.push_toArray, List.append_toArray, List.nil_append, List.cons_append]
  gi_wp2
  refine ⟨trivial, (callsIn_wide.2 (all_new d _)).mono ?_⟩
  rintro e w1 ⟨nb, rfl, HA⟩
  simp only []
  have H3 := H2.out.add HA
  replace H3 := Lib.hid H3
  gi_wp2
  have H4 : St w S w1 ([cellA nb [.pointer (some ⟨d, 0, none⟩)], dockA d most l] ++ swA (w.heap.size + 1) (w.heap.size + 1 + 1) w.heap.size (.func (.func G) #[] caps) pr J []) := sw_shut (ov := .slice none 0 0) (rv := .slice none 0 0) (H3.out.arr [2, 3, 1, 4, 5, 7, 0, 6] rfl)
  clear H3 H2 HA
  have hsl := hcall.out
  refine wpIn_range_st rfl (by decide) (gf := 142) (lb := #[.pointer (some ⟨nb, 0, none⟩)]) rfl trivial (enters_of Try.func142 (by kernel_rfl) rfl)
    (all_iter _ d nb most l hl2 w S) (fun _ => rfl) (swA (w.heap.size + 1) (w.heap.size + 1 + 1) w.heap.size (.func (.func G) #[] caps) pr J) (fun _ _ => [andA False (sepA [])]) H4 ?round ?done ?stop
  case stop =>
    intro D c pre x suf w2 _ hs
    exact (hs.unand 3 rfl).1.elim
  case round =>
    intro L pre x suf w1 hx
    simp only [val]
    gi_wp2
    refine ⟨trivial, ?_⟩
    intro p w3 hs
    obtain ⟨ov, rv, hs1⟩ := sw_parts hs
    obtain ⟨oa, oc, rfl, _, _, _, _⟩ := St.slice (by omega) 1 hs1 rfl
    obtain ⟨ra, rc, rfl, _, _, _, _⟩ := St.slice (by omega) 3 hs1 rfl
    have P1 := Calls.st_at 5 hs1 rfl fun S h => hsl pre x suf _ S hx hs1.only h
    have ho := outs_snoc pr x pre []
    have hr := rests_snoc pr x pre []
    have hlen := outs_len pr pre []
    have hpl : pre.length ≤ 100000 := by have := congrArg List.length hx; simp at this; omega
    obtain ⟨zg, cg, fg⟩ := hs1.box 4 rfl
    rw [List.nil_append] at ho hr
    simp only [val] at P1
    clear hs hs1 hsl hcall H4
    replace P1 := Lib.hid P1; replace ho := Lib.hid ho; replace hr := Lib.hid hr; replace hx := Lib.hid hx
    gi_wp2
    refine ⟨trivial, (CallsIn.inRound L (callsIn_wide.2 P1.out)).mono ?_⟩
    rintro e w4 ⟨rfl, H5⟩
    clear P1
    obtain ⟨zo, co, fo⟩ := H5.box 1 rfl
    obtain ⟨zr, cr, fr⟩ := H5.box 3 rfl
    simp only []
    cases hb : pr pre x with
    | true =>
      rw [hb] at ho hr
      replace H5 := Lib.hid H5
      gi_wp2_with (gi_at_builtin; (refine wpListIn_appS rfl (.tmp 20) (.tmp 22) _ rfl 146 i0 _ 1 8 Try.underlying160 hi hz hz1 hz2 rfl (by omega) 2 _ (outs pr [] pre).length (encs (outs pr [] pre)) rfl H5.out rfl 1 1 [.pointer x] rfl rfl (by simp [Value.oneCell']) (by omega) (by omega) ?_; intro wv5 w5 H6; obtain ⟨g5, o5, c5, rfl⟩ := row_some (H6.row 0 rfl) (by omega); obtain ⟨z5, k5, f5⟩ := H6.box 2 rfl; replace H6 := Lib.hid H6))
      have H7 := H6.out.set 2 rfl 0 (.slice (some ⟨g5, o5, none⟩) ((outs pr [] pre).length + 1) c5) (by simp)
      have ho' : outs pr [] (pre ++ [x]) = outs pr [] pre ++ [x] := by rw [ho.out]; simp
      have hr' : rests pr [] (pre ++ [x]) = rests pr [] pre := by rw [hr.out]; simp
      refine sw_shut (ov := .slice (some ⟨g5, o5, none⟩) ((outs pr [] pre).length + 1) c5) (rv := .slice ra (rests pr [] pre).length rc) ?_
      rw [ho', hr', List.length_append, ← encs_app]
      exact H7.arrN [0, 1, 3, 4, 5, 2] rfl
    | false =>
      rw [hb] at ho hr
      replace H5 := Lib.hid H5
      gi_wp2_with (gi_at_builtin; (refine wpListIn_appS rfl (.tmp 24) (.tmp 26) _ rfl 146 i0 _ 1 8 Try.underlying160 hi hz hz1 hz2 rfl (by omega) 4 _ (rests pr [] pre).length (encs (rests pr [] pre)) rfl H5.out rfl 1 1 [.pointer x] rfl rfl (by simp [Value.oneCell']) (by omega) (by omega) ?_; intro wv5 w5 H6; obtain ⟨g5, o5, c5, rfl⟩ := row_some (H6.row 0 rfl) (by omega); obtain ⟨z5, k5, f5⟩ := H6.box 4 rfl; replace H6 := Lib.hid H6))
      have H7 := H6.out.set 4 rfl 0 (.slice (some ⟨g5, o5, none⟩) ((rests pr [] pre).length + 1) c5) (by simp)
      have ho' : outs pr [] (pre ++ [x]) = outs pr [] pre := by rw [ho.out]; simp
      have hr' : rests pr [] (pre ++ [x]) = rests pr [] pre ++ [x] := by rw [hr.out]; simp
      refine sw_shut (ov := .slice oa (outs pr [] pre).length oc) (rv := .slice (some ⟨g5, o5, none⟩) ((rests pr [] pre).length + 1) c5) ?_
      rw [ho', hr', List.length_append, ← encs_app]
      exact H7.arrN [3, 4, 0, 1, 5, 2] rfl
  case done =>
    intro D w2 hs
    obtain ⟨ov, rv, hs1⟩ := sw_parts (p := [objA D (.deferred (some [])), cellA nb [.pointer (some ⟨d, 0, none⟩)], dockA d most l]) hs
    obtain ⟨oa, oc, rfl, _, _, _, _⟩ := St.slice (by omega) 1 hs1 rfl
    obtain ⟨ra, rc, rfl, _, _, _, _⟩ := St.slice (by omega) 3 hs1 rfl
    have H5 := hs1.front 8 rfl
    obtain ⟨dv, H6⟩ := dock_parts H5
    obtain ⟨zd, cd, fd⟩ := H6.box 0 rfl
    obtain ⟨zo, co, fo⟩ := H6.box 2 rfl
    obtain ⟨zr, cr, fr⟩ := H6.box 4 rfl
    have n1 := H6.ne_cells 0 2 rfl rfl (by decide)
    have n2 : ¬ w.heap.size + 1 = d := fun e => n1 e.symm
    have HS := H6.set 0 rfl 0 (.slice ra (rests pr [] l).length rc) (by simp)
    have hD := HS.obj 8 rfl
    have HP := (HS.putObj 8 rfl (.deferred none)).arr [1, 6, 4, 8, 0, 2, 3, 5, 7, 9] rfl
    have HF : St w S _ [rowA 1 (.slice oa (outs pr [] l).length oc) (outs pr [] l).length (encs (outs pr [] l)), dockA d most (rests pr [] l), J l] := ((dock_shut (v := .slice ra (rests pr [] l).length rc) HP).arrN [1, 0, 2] rfl).drops 3
    clear hs hs1 H5 hsl hcall H4 H6 HS HP
    replace hD := Lib.hid hD; replace HF := Lib.hid HF
    gi_wp2
    refine ⟨by simp, .inl ⟨_, _, rfl, run_takeDeferred hD.out, ?_⟩⟩
    exact ⟨.slice oa (outs pr [] l).length oc, by simp [results, Try.results115, go_sem], _, rfl, HF.out⟩
theorem sweep_any (d : Nat) (most : Int) (l : List El) (hl2 : l.length ≤ 100000) (G : Nat) (caps : Array Value) (hG : ∀ args w, (callFunc G args).run Try.prog w = .ok (.enter G args) w) (pr : List El → El → Bool) (J : List El → Asn)
    (hcall : ∀ pre x suf (w : World) (S : Nat → Prop), l = pre ++ x :: suf → (J pre).holds w S → Calls Try.prog G (#[val x] ++ caps) w (Fin w S (.bool (pr pre x)) [J (pre ++ [x])]))
    (w : World) (S : Nat → Prop) (h : (sepA [dockA d most l, J []]).holds w S) :
    Calls Try.prog 115 #[.pointer (some ⟨d, 0, none⟩), .func (.func G) #[] caps] w (fun e w' => ∃ v, e = .returned v ∧ St w S w' [rowA 1 v (outs pr [] l).length (encs (outs pr [] l)), dockA d most (rests pr [] l), J l]) :=
  sweep_with d most l hl2 G caps hG pr J w S (fun pre x suf w' S' hx _ hJ => hcall pre x suf w' S' hx hJ) h
end Go.Proofs.Ytpajedpkdfacoaa.DockSPtr
