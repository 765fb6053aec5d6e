/- The walk of the statement NetDoes. -/
import Derived.Test.YtfdijoaclpnccaaNetRef2
import Derived.Deep.CutBlock
import Derived.Deep.DeepCutAuto
namespace Go.Proofs.Ytfdijoaclpnccaa.Net
set_option linter.unusedSimpArgs false
set_option linter.unusedVariables false
open Go Go.RowKit Go.Proofs.Ytfdijoaclpnccaa Go.Proofs.Ytfdijoaclpnccaa.DelUn
attribute [local irreducible] Calls

/-- One step. -/
structure Nop where
  kind : Int
  x : Int
  bit : Int
  u : Un
def encO (o : Nop) : List Value := [.int .i64 o.kind, .int .i64 o.x, .int .i64 o.bit, .int .i64 o.u.side, .int .i64 o.u.frm, .int .i64 o.u.dst, .string o.u.dat]
def nops (l : List Nop) : List Value := l.flatMap encO
theorem encO_len (o : Nop) : (encO o).length = 7 := rfl
theorem nops_in {w : World} {a : Option Addr} {len cap : Nat} (h : Fits w (.slice 7 (.cons 1 (.int .i64) (.cons 1 (.int .i64) (.cons 1 (.int .i64) (.cons 4 (.cons 1 (.int .i64) (.cons 2 (.cons 1 (.int .i64) (.cons 1 (.int .i64) .nil)) (.cons 1 .str .nil))) .nil))))) [.slice a len cap]) :
    len ≤ maxLen ∧ (a = none → len = 0) ∧ ∃ l : List Nop, l.length = len ∧ (∀ o ∈ l, isI64 o.x ∧ isI64 o.bit ∧ o.u.dat.size ≤ maxLen) ∧ Rd w a (nops l) :=
  rows_in (size := 7) encO (by omega) encO_len (fun cs hf _ => by
    obtain ⟨_, _, rfl, f0, r0⟩ := fits_cons1 hf
    obtain ⟨_, _, rfl, f1, r1⟩ := fits_cons1 r0
    obtain ⟨_, t, rfl, f2, r2⟩ := fits_cons1 r1
    obtain ⟨_, f3, r3⟩ := r2
    obtain ⟨n0, rfl, _⟩ := fits_int f0
    obtain ⟨n1, rfl, w1⟩ := fits_int f1
    obtain ⟨n2, rfl, w2⟩ := fits_int f2
    obtain ⟨u, hu, wu⟩ := un_in f3
    have ht : t = encU u := by
      have h0 : t.drop 4 = [] := r3
      rw [← List.take_append_drop 4 t, hu, h0, List.append_nil]
    exact ⟨⟨n0, n1, n2, u⟩, by rw [ht]; rfl, bounds_i64 w1, bounds_i64 w2, wu⟩) h
theorem nops_at {w : World} {a : Option Addr} {l : List Nop} (h : Rd w a (nops l)) {n : Nat} (hn : l.length = n) (h0 : 0 < n) :
    ∃ b off, a = some ⟨b, off, none⟩ ∧ b < w.heap.size ∧ ∀ i (hi : i < l.length), w.cell? ⟨b, off + i * 7, none⟩ = some (.int .i64 l[i].kind) ∧ w.cell? ⟨b, off + i * 7 + 1, none⟩ = some (.int .i64 l[i].x) ∧ w.cell? ⟨b, off + i * 7 + 2, none⟩ = some (.int .i64 l[i].bit) ∧
      w.cell? ⟨b, off + i * 7 + 3, none⟩ = some (.int .i64 l[i].u.side) ∧ w.cell? ⟨b, off + i * 7 + 4, none⟩ = some (.int .i64 l[i].u.frm) ∧ w.cell? ⟨b, off + i * 7 + 5, none⟩ = some (.int .i64 l[i].u.dst) ∧ w.cell? ⟨b, off + i * 7 + 6, none⟩ = some (.string l[i].u.dat) := by
  obtain ⟨b, off, e, hb, hc⟩ := Rd.rows encO_len (by omega) h hn h0
  exact ⟨b, off, e, hb, fun i hi => ⟨hc i hi 0 _ rfl, hc i hi 1 _ rfl, hc i hi 2 _ rfl, hc i hi 3 _ rfl, hc i hi 4 _ rfl, hc i hi 5 _ rfl, hc i hi 6 _ rfl⟩⟩

def bigN (L : List Nop) : Bool := decide (400 < L.length) || L.any fun o => decide (1000 < o.u.dat.size)
theorem big_no {L : List Nop} (h : bigN L = false) : L.length ≤ 400 ∧ ∀ o ∈ L, o.u.dat.size ≤ 1000 := by
  unfold bigN at h
  simp only [Bool.or_eq_false_iff, decide_eq_false_iff_not, List.any_eq_false] at h
  exact ⟨by omega, fun o ho => by have := h.2 o ho; simp at this; omega⟩
set_option maxRecDepth 100000 in
set_option maxHeartbeats 400000 in
theorem great_any (L : List Nop) (n : Nat) (hl : L.length = n) (hn : n ≤ maxLen) (hgood : ∀ o ∈ L, o.u.dat.size ≤ maxLen) (a : Option Addr) (cap : Nat) (w : World) (h : Rd w a (nops L)) :
    Calls Try.prog 15 #[.slice a n cap] w (Ret w (.bool (bigN L))) := by
  unfold maxLen at hn
  replace h := Lib.hid h; replace hl := Lib.hid hl; replace hgood := Lib.hid hgood
  go_enter Try.func15, Try.ntmps15
  go_wp2_with fail
  go_loopg [3] n (fun g i wr => ∃ j : Nat, j ≤ n ∧ g = n - j ∧ i = .int .i64 j ∧ j ≤ 400 ∧ Below w.heap.size w wr ∧ Hid (∀ i (hi : i < L.length), i < j → L[i].u.dat.size ≤ 1000))
  case atStart => exact ⟨0, by omega, by omega, rfl, by omega, (by repeat (first | with_reducible exact Below.refl _ _ | (with_reducible refine Below.al ?_) | (with_reducible refine Below.drew ?_) | (with_reducible refine Below.set ?_ (by first | (simp; done) | omega | (simp; omega))) | (with_reducible refine Below.thru ?_ (by assumption)) | (with_reducible refine Below.chg ?_ (by assumption) (by first | (simp; done) | omega | (simp; omega))))), fun i _ h => by omega⟩
  case round =>
    obtain ⟨j, hj, hg, rfl, h4, hbw, hno⟩ := hrel
    by_cases hlt : j < n
    · have hjl : j < L.length := by have := hl.out; omega
      obtain ⟨b, off, rfl, hb, hc⟩ := nops_at (h.out.below hbw) hl.out (by omega)
      obtain ⟨_, _, _, _, _, _, e6⟩ := hc j hjl
      have hs := hgood.out L[j] (List.getElem_mem hjl)
      unfold maxLen at hs
      clear hc
      by_cases hbig : 1000 < L[j].u.dat.size
      · have hB : bigN L = true := by
          have : (L.any fun o => decide (1000 < o.u.dat.size)) = true := List.any_eq_true.2 ⟨L[j], List.getElem_mem hjl, by simpa using hbig⟩
          unfold bigN
          rw [this, Bool.or_true]
        rw [hB]
        generalize L[j] = o at *
        have q1 : decide ((1000 : Int) < o.u.dat.size) = true := decide_eq_true (by omega)
        clear hB
        by_cases h400 : j < 400
        · have q2 : decide ((400 : Int) ≤ j) = false := decide_eq_false (by omega)
          go_wp2_with fail
          go_ret
          exact Ret.mk rfl (by repeat (first | with_reducible exact Below.refl _ _ | (with_reducible refine Below.al ?_) | (with_reducible refine Below.drew ?_) | (with_reducible refine Below.set ?_ (by first | (simp; done) | omega | (simp; omega))) | (with_reducible refine Below.thru ?_ (by assumption)) | (with_reducible refine Below.chg ?_ (by assumption) (by first | (simp; done) | omega | (simp; omega)))))
        · have q2 : decide ((400 : Int) ≤ j) = true := decide_eq_true (by omega)
          go_wp2_with fail
          go_ret
          exact Ret.mk rfl (by repeat (first | with_reducible exact Below.refl _ _ | (with_reducible refine Below.al ?_) | (with_reducible refine Below.drew ?_) | (with_reducible refine Below.set ?_ (by first | (simp; done) | omega | (simp; omega))) | (with_reducible refine Below.thru ?_ (by assumption)) | (with_reducible refine Below.chg ?_ (by assumption) (by first | (simp; done) | omega | (simp; omega)))))
      · by_cases h400 : j < 400
        · have hno' : Hid (∀ i (hi : i < L.length), i < j + 1 → L[i].u.dat.size ≤ 1000) := fun i hi h => by
            by_cases e : i = j
            · subst e; omega
            · exact hno.out i hi (by omega)
          generalize L[j] = o at *
          have q1 : decide ((1000 : Int) < o.u.dat.size) = false := decide_eq_false (by omega)
          have q2 : decide ((400 : Int) ≤ j) = false := decide_eq_false (by omega)
          go_wp2_with fail
          go_roundg (n - (j + 1))
          case measure => omega
          case rel => exact ⟨j + 1, by omega, rfl, by go_num, by omega, (by repeat (first | with_reducible exact Below.refl _ _ | (with_reducible refine Below.al ?_) | (with_reducible refine Below.drew ?_) | (with_reducible refine Below.set ?_ (by first | (simp; done) | omega | (simp; omega))) | (with_reducible refine Below.thru ?_ (by assumption)) | (with_reducible refine Below.chg ?_ (by assumption) (by first | (simp; done) | omega | (simp; omega))))), hno'⟩
        · have hB : bigN L = true := by
            have h5 : 400 < L.length := by omega
            unfold bigN
            rw [decide_eq_true h5, Bool.true_or]
          rw [hB]
          generalize L[j] = o at *
          have q1 : decide ((1000 : Int) < o.u.dat.size) = false := decide_eq_false (by omega)
          have q2 : decide ((400 : Int) ≤ j) = true := decide_eq_true (by omega)
          clear hB
          go_wp2_with fail
          go_ret
          exact Ret.mk rfl (by repeat (first | with_reducible exact Below.refl _ _ | (with_reducible refine Below.al ?_) | (with_reducible refine Below.drew ?_) | (with_reducible refine Below.set ?_ (by first | (simp; done) | omega | (simp; omega))) | (with_reducible refine Below.thru ?_ (by assumption)) | (with_reducible refine Below.chg ?_ (by assumption) (by first | (simp; done) | omega | (simp; omega)))))
    · obtain rfl : j = n := by omega
      have hB : bigN L = false := by
        have h5 : ¬ 400 < L.length := by have := hl.out; omega
        unfold bigN
        rw [decide_eq_false h5, Bool.false_or]
        exact any_none fun i hi => by have := hno.out i hi (by have := hl.out; omega); simp; omega
      replace hB := Lib.hid hB
      go_wp2_with fail
      go_ret
      exact Ret.mk (congrArg Value.bool hB.out.symm) (by repeat (first | with_reducible exact Below.refl _ _ | (with_reducible refine Below.al ?_) | (with_reducible refine Below.drew ?_) | (with_reducible refine Below.set ?_ (by first | (simp; done) | omega | (simp; omega))) | (with_reducible refine Below.thru ?_ (by assumption)) | (with_reducible refine Below.chg ?_ (by assumption) (by first | (simp; done) | omega | (simp; omega)))))

/-- What is told of a row that is handed on. -/
theorem St.slice {W w : World} {S0 : Nat → Prop} {l : List Asn} {size n : Nat} {v : Value} {xs : List Value} (hs : 0 < size) (i : Nat) (h : St W S0 w l) (hi : l[i]? = some (rowA size v n xs)) :
    ∃ a cap, v = .slice a n cap ∧ n ≤ cap ∧ cap ≤ maxLen ∧ (a = none → n = 0) ∧ Rd w a xs := by
  have ho := h.row i hi
  obtain ⟨a, cap, e, _, hl, hr⟩ := ho.rd hs
  refine ⟨a, cap, e, ?_⟩
  subst e
  rcases ho.2 with ⟨e, e0⟩ | ⟨g, o, cap', e, _, _, hn, hc, _⟩
  · injection e with e1 e2 e3
    subst e1 e3 e0
    exact ⟨Nat.le_refl _, Nat.zero_le _, fun _ => rfl, hr⟩
  · injection e with e1 e2 e3
    subst e1 e3
    exact ⟨hn, hc, (fun e => by cases e), hr⟩
theorem St.rd {W w : World} {S0 : Nat → Prop} {l : List Asn} {size n cap : Nat} {a : Option Addr} {xs : List Value} (hs : 0 < size) (i : Nat) (h : St W S0 w l) (hi : l[i]? = some (rowA size (.slice a n cap) n xs)) : Rd w a xs := by
  obtain ⟨a', cap', e, _, _, hr⟩ := (h.row i hi).rd hs
  injection e with e1 e2 e3
  subst e1
  exact hr
theorem NewL.below {w w' : World} {v v' : Value} {l l' : List Un} (h : NewL w v v' l l' w') : Below w.heap.size w w' := by
  rcases h with ⟨_, _, h⟩ | h
  · exact h
  · exact h.below
/-- A net and a list of what it has. -/
def small (l : List Un) : Prop := ∀ u ∈ l, u.dat.size ≤ 1000
theorem small_put {l : List Un} {u : Un} (h : small l) (hu : u.dat.size ≤ 1000) : small (putL l u) := by
  unfold putL
  split
  · intro x hx
    rcases List.mem_append.1 hx with hx | hx
    · exact h x hx
    · obtain rfl : x = u := by simpa using hx
      exact hu
  · exact h
theorem put_len {l : List Un} {u : Un} (h : l.length ≤ 200) : (putL l u).length ≤ 200 := by
  unfold putL
  split
  · simp; omega
  · exact h
theorem small_cut {l : List Un} (h : small l) (i j : Nat) : small (l.take i ++ l.drop j) := by
  intro x hx
  rcases List.mem_append.1 hx with hx | hx
  · exact h x (List.mem_of_mem_take hx)
  · exact h x (List.mem_of_mem_drop hx)
theorem small_set {l : List Un} {u : Un} (h : small l) (i : Nat) (hu : u.dat.size ≤ 1000) : small (l.set i u) := by
  intro x hx
  rcases List.mem_or_eq_of_mem_set hx with hx | hx
  · exact h x hx
  · rw [hx]; exact hu

/-- Behind the step: both have the same, and answer alike. -/
def Alike (w : World) (d gb wb : Nat) (v5 v8 v10 : Value) (wx : World) : Prop :=
  ∃ (l : List Un) (x : Un) (b : Bool), v8 = .bool b ∧ v10 = .bool b ∧ l.length ≤ 200 ∧ small l ∧ St w none0 wx [netA d l, rowA 4 v5 l.length (uns l), cellA gb (encU x), cellA wb (encU x)]
set_option maxRecDepth 100000 in
set_option maxHeartbeats 4000000 in
theorem does_walk (a : Option Addr) (n cap : Nat) (w : World) (h0 : Fits w (.slice 7 (.cons 1 (.int .i64) (.cons 1 (.int .i64) (.cons 1 (.int .i64) (.cons 4 (.cons 1 (.int .i64) (.cons 2 (.cons 1 (.int .i64) (.cons 1 (.int .i64) .nil)) (.cons 1 .str .nil))) .nil))))) [.slice a n cap]) :
    Calls Try.prog 3 #[.slice a n cap] w (Ret w (.bool true)) := by
  obtain ⟨hn, _, L, hl, hgood, hL⟩ := nops_in h0
  have hg0 : ∀ o ∈ L, o.u.dat.size ≤ maxLen := fun o ho => (hgood o ho).2.2
  clear h0
  have G := fun W (hb : Below w.heap.size w W) => great_any L n hl hn hg0 a cap W (hL.below hb)
  unfold maxLen at hn
  replace hl := Lib.hid hl; replace hL := Lib.hid hL; replace hgood := Lib.hid hgood; replace G := Lib.hid G; replace hg0 := Lib.hid hg0
  go_enter Try.func3, Try.ntmps3
  go_wp2_with fail
  refine Calls.mono (works_law _) ?_
  rintro e w1 ⟨rfl, hb1⟩
  have z1 := Below.size hb1; try simp only [World.size_alloc, World.size_setCell, World.size_drew] at z1
  go_wp2_with fail
  refine Calls.mono (G.out _ hb1) ?_
  rintro e w2 ⟨rfl, hb2⟩
  have z2 := Below.size hb2; try simp only [World.size_alloc, World.size_setCell, World.size_drew] at z2
  have H2 := ((St.zero w).thru hb1).thru hb2
  replace H2 := Lib.hid H2
  cases hB : bigN L with
  | true =>
    go_wp2_with fail
    go_ret
    exact H2.out.ret rfl
  | false =>
    obtain ⟨h400, hsm⟩ := big_no hB
    clear hB
    replace hsm := Lib.hid hsm
    go_wp2_with fail
    refine Calls.mono (new_any _) ?_
    rintro e w3 ⟨d, rfl, H3⟩
    have H4 := (H2.out.row_nil (size := 4)).add H3
    clear H3 H2
    replace H4 := Lib.hid H4
    go_wp2_with fail
    go_loopg [5, 6, 7, 8, 9, 10, 11] n (fun g mv i _ _ _ _ _ wr => ∃ (j : Nat) (l : List Un), j ≤ n ∧ g = n - j ∧ i = .int .i64 j ∧ l.length ≤ 200 ∧ Hid (small l) ∧ St w none0 wr [netA d l, rowA 4 mv l.length (uns l)])
    case atStart => exact ⟨0, [], by omega, by omega, rfl, by simp, fun _ h => by simp at h, H4.out⟩
    case round =>
      obtain ⟨mv, hmv⟩ : ∃ v, v = u5 := ⟨_, rfl⟩
      subst hmv
      obtain ⟨j, l, hj, hg, rfl, hl2, hsml, hst⟩ := hrel
      obtain ⟨ma, mc, rfl, hmc, hmm, hm0, hR⟩ := St.slice (by omega) 1 hst rfl
      clear H4
      by_cases hlt : j < n
      · have hjl : j < L.length := by have := hl.out; omega
        obtain ⟨b, off, rfl, hb, hc⟩ := nops_at (hL.out.below hst.below) hl.out (by omega)
        obtain ⟨e0, e1, e2, e3, e4, e5, e6⟩ := hc j hjl
        obtain ⟨wx, wbit, _⟩ := hgood.out L[j] (List.getElem_mem hjl)
        have hus := hsm.out L[j] (List.getElem_mem hjl)
        clear hc
        generalize L[j] = o at *
        obtain ⟨kind, X, bit, ⟨y0, y1, y2, y3⟩⟩ := o
        simp only at e0 e1 e2 e3 e4 e5 e6 wx wbit hus
        have zw := hst.size
        have hst1 := ((hst.alloc [.int .i64 kind, .int .i64 X, .int .i64 bit, .int .i64 y0, .int .i64 y1, .int .i64 y2, .string y3] 33).alloc zl 31).alloc zl 31
        simp only [World.size_alloc] at hst1
        unfold zl at hst1
        replace hst := Lib.hid hst; replace hst1 := Lib.hid hst1; replace hR := Lib.hid hR
        unfold maxLen at hmm
        go_upto_block 2 with fail
        go_cut [5, 8, 10] (fun v5 v8 v10 wx => Alike w d (wr.heap.size + 1) (wr.heap.size + 1 + 1) v5 v8 v10 wx)
        case first =>
          by_cases k012 : kind = 0 ∨ kind = 1 ∨ kind = 2
          · rcases k012 with rfl | rfl | rfl
            all_goals
              have P1 := put_ref ma mc l ⟨y0, y1, y2, y3⟩ _ (by omega) (St.rd (by omega) 4 hst1.out rfl) hm0; simp only [valU] at P1
              replace P1 := Lib.hid P1
              go_wp2_with fail
              refine Calls.mono P1.out ?_
              rintro e w4 ⟨v', rfl, hN⟩
              clear P1
              have H4 := hN.thru (hst1.out.front 4 rfl)
              obtain ⟨zo4, co4, fo4⟩ := H4.box 3 rfl
              have P2 := Calls.st_at 4 H4 rfl fun S h => put_any d l ⟨y0, y1, y2, y3⟩ _ S h; simp only [valU] at P2; replace H4 := Lib.hid H4
              replace P2 := Lib.hid P2
              go_wp2_with fail
              refine Calls.mono P2.out ?_
              rintro e w5 ⟨rfl, H6⟩
              clear P2
              have H7 : St w none0 w5 [netA d (putL l ⟨y0, y1, y2, y3⟩), rowA 4 v' (putL l ⟨y0, y1, y2, y3⟩).length (uns (putL l ⟨y0, y1, y2, y3⟩)), _, _] := (((((H6.front 2 rfl).front 3 rfl).front 3 rfl).front 3 rfl).drops 4)
              replace H7 := Lib.hid H7
              clear H6 H4
              go_wp2_with fail
              go_meet
              exact ⟨_, ⟨0, 0, 0, ByteArray.empty⟩, _, rfl, rfl, put_len hl2, small_put hsml.out hus, H7.out⟩
          · have q0 : (kind == 0) = false := by simp; omega
            have q1 : (kind == 1) = false := by simp; omega
            have q2 : (kind == 2) = false := by simp; omega
            clear k012
            by_cases k8 : kind = 8
            · subst k8
              clear q0 q1 q2
              have H1 := ((hst1.out.front 1 rfl).front 4 rfl).front 4 rfl
              obtain ⟨SR, hR8, _, hback⟩ := H1.at 0 rfl
              have P1 := clear_any d l _ SR hR8
              replace P1 := Lib.hid P1; replace hback := Lib.hid hback
              clear H1 hR8
              go_wp2_with fail
              refine Calls.mono P1.out ?_
              rintro e w4 ⟨cv, rfl, h8⟩
              have H4 := hback.out _ _ h8
              clear hback h8 P1
              obtain ⟨ca, cc, rfl, _, _, _, hRc⟩ := St.slice (by omega) 0 H4 rfl
              have P2 := same_any l l.length rfl (by unfold maxLen; omega) ca cc ma mc w4 hRc (St.rd (by omega) 2 H4 rfl)
              clear hRc
              replace H4 := Lib.hid H4; replace P2 := Lib.hid P2
              go_wp2_with fail
              refine Calls.mono (P2.out) ?_
              rintro e w5 ⟨rfl, hb5⟩
              have z5 := Below.size hb5; try simp only [World.size_alloc, World.size_setCell, World.size_drew] at z5
              have H5 := (((H4.out.thru hb5).drop 2 rfl).drop 0 rfl).row_nil (size := 4)
              have H8 := ((H5.front 1 rfl).drops 4)
              clear H5 H4
              replace H8 := Lib.hid H8
              go_wp2_with fail
              go_meet
              exact ⟨[], ⟨0, 0, 0, ByteArray.empty⟩, _, rfl, rfl, by simp, fun _ h => by simp at h, H8.out⟩
            have q8 : (kind == 8) = false := by simpa using k8
            by_cases kx : kind = 3 ∨ kind = 4 ∨ kind = 5 ∨ kind = 6 ∨ kind = 7
            · clear k8 q8
              by_cases hbad : l.length = 0 ∨ X < 0
              · by_cases k3 : kind = 3
                · subst k3
                  clear q0 q1 q2
                  have P1 := (fun {W : World} (_ : St w none0 W _) => take_ref_bad ma mc l X W (by omega) hbad) hst1.out; (try simp only [zeroU] at P1)
                  replace P1 := Lib.hid P1
                  go_wp2_with fail
                  refine Calls.mono P1.out ?_
                  rintro e w4 ⟨v', rfl, hN⟩
                  clear P1
                  have H4 := hst1.out.thru hN.below
                  obtain ⟨zo4, co4, fo4⟩ := H4.box 2 rfl
                  obtain ⟨zw4, cw4, fw4⟩ := H4.box 0 rfl
                  have H5 := ((((((((H4.front 0 rfl).set 0 rfl 0 (.int .i64 0) (by simp))).set 0 rfl 1 (.int .i64 0) (by simp))).set 0 rfl 2 (.int .i64 0) (by simp))).set 0 rfl 3 (.string ByteArray.empty) (by simp))
                  have P2 := Calls.rd_at 3 H5 rfl fun S h => at_bad d l X _ S h hbad; (try simp only [valU, zeroU] at P2); replace H4 := Lib.hid H4; replace H5 := Lib.hid H5
                  replace P2 := Lib.hid P2
                  go_wp2_with fail
                  refine Calls.mono P2.out ?_
                  rintro e w5 ⟨rfl, H6⟩
                  clear P2
                  obtain ⟨zg4, cg4, fg4⟩ := H6.box 1 rfl
                  have H7 := (((((((((H6.front 1 rfl).set 0 rfl 0 (.int .i64 0) (by simp))).set 0 rfl 1 (.int .i64 0) (by simp))).set 0 rfl 2 (.int .i64 0) (by simp))).set 0 rfl 3 (.string ByteArray.empty) (by simp)))
                  have H8 := ((H7.front 4 rfl).front 4 rfl).drops 4
                  replace H8 := Lib.hid H8
                  clear H6 H7 H4 H5
                  go_wp2_with fail
                  go_meet
                  exact ⟨l, ⟨0, 0, 0, ByteArray.empty⟩, _, rfl, rfl, hl2, hsml.out, H8.out⟩
                have q3 : (kind == 3) = false := by simpa using k3
                by_cases k4 : kind = 4
                · subst k4
                  clear q0 q1 q2 q3 k3
                  have P1 := (fun {W : World} (_ : St w none0 W _) => take_ref_bad ma mc l X W (by omega) hbad) hst1.out; (try simp only [zeroU] at P1)
                  replace P1 := Lib.hid P1
                  go_wp2_with fail
                  refine Calls.mono P1.out ?_
                  rintro e w4 ⟨v', rfl, hN⟩
                  clear P1
                  have H4 := hN.thru (hst1.out.front 4 rfl)
                  obtain ⟨zo4, co4, fo4⟩ := H4.box 3 rfl
                  obtain ⟨zw4, cw4, fw4⟩ := H4.box 1 rfl
                  have H5 := ((((((((H4.front 1 rfl).set 0 rfl 0 (.int .i64 0) (by simp))).set 0 rfl 1 (.int .i64 0) (by simp))).set 0 rfl 2 (.int .i64 0) (by simp))).set 0 rfl 3 (.string ByteArray.empty) (by simp))
                  have P2 := Calls.rd_at 4 H5 rfl fun S h => take_bad d l X _ S h hbad; (try simp only [valU, zeroU] at P2); replace H4 := Lib.hid H4; replace H5 := Lib.hid H5
                  replace P2 := Lib.hid P2
                  go_wp2_with fail
                  refine Calls.mono P2.out ?_
                  rintro e w5 ⟨rfl, H6⟩
                  clear P2
                  obtain ⟨zg4, cg4, fg4⟩ := H6.box 2 rfl
                  have H7 := (((((((((H6.front 2 rfl).set 0 rfl 0 (.int .i64 0) (by simp))).set 0 rfl 1 (.int .i64 0) (by simp))).set 0 rfl 2 (.int .i64 0) (by simp))).set 0 rfl 3 (.string ByteArray.empty) (by simp)))
                  have H8 := ((H7.front 2 rfl).front 4 rfl).drops 4
                  replace H8 := Lib.hid H8
                  clear H6 H7 H4 H5
                  go_wp2_with fail
                  go_meet
                  exact ⟨l, ⟨0, 0, 0, ByteArray.empty⟩, _, rfl, rfl, hl2, hsml.out, H8.out⟩
                have q4 : (kind == 4) = false := by simpa using k4
                by_cases k5 : kind = 5
                · subst k5
                  clear q0 q1 q2 q3 k3 q4 k4
                  have P1 := (fun {W : World} (_ : St w none0 W _) => double_ref_bad ma mc l X W (by omega) hbad) hst1.out
                  replace P1 := Lib.hid P1
                  go_wp2_with fail
                  refine Calls.mono P1.out ?_
                  rintro e w4 ⟨v', rfl, hN⟩
                  clear P1
                  have H4 := hN.thru (hst1.out.front 4 rfl)
                  obtain ⟨zo4, co4, fo4⟩ := H4.box 3 rfl
                  have P2 := Calls.rd_at 4 H4 rfl fun S h => double_bad d l X _ S h hbad; replace H4 := Lib.hid H4
                  replace P2 := Lib.hid P2
                  go_wp2_with fail
                  refine Calls.mono P2.out ?_
                  rintro e w5 ⟨rfl, H6⟩
                  clear P2
                  have H8 := (((((H6.front 1 rfl).front 2 rfl).front 2 rfl).front 4 rfl).drops 4)
                  replace H8 := Lib.hid H8
                  clear H6 H4
                  go_wp2_with fail
                  go_meet
                  exact ⟨_, ⟨0, 0, 0, ByteArray.empty⟩, _, rfl, rfl, hl2, hsml.out, H8.out⟩
                have q5 : (kind == 5) = false := by simpa using k5
                by_cases k67 : kind = 6 ∨ kind = 7
                · rcases k67 with rfl | rfl
                  all_goals
                    clear q0 q1 q2 q3 k3 q4 k4 q5 k5
                    have P1 := (fun {W : World} (_ : St w none0 W _) => flip_ref_bad ma mc l X bit W (by omega) hbad) hst1.out
                    replace P1 := Lib.hid P1
                    go_wp2_with fail
                    refine Calls.mono P1.out ?_
                    rintro e w4 ⟨v', rfl, hN⟩
                    clear P1
                    have H4 := hN.thru (hst1.out.front 4 rfl)
                    obtain ⟨zo4, co4, fo4⟩ := H4.box 3 rfl
                    have P2 := Calls.rd_at 4 H4 rfl fun S h => flip_bad d l X bit _ S h hbad; replace H4 := Lib.hid H4
                    replace P2 := Lib.hid P2
                    go_wp2_with fail
                    refine Calls.mono P2.out ?_
                    rintro e w5 ⟨rfl, H6⟩
                    clear P2
                    have H8 := (((((H6.front 1 rfl).front 2 rfl).front 2 rfl).front 4 rfl).drops 4)
                    replace H8 := Lib.hid H8
                    clear H6 H4
                    go_wp2_with fail
                    go_meet
                    exact ⟨_, ⟨0, 0, 0, ByteArray.empty⟩, _, rfl, rfl, hl2, hsml.out, H8.out⟩
                exfalso
                omega
              · have h3 : X.toNat % l.length < l.length := Nat.mod_lt _ (by omega)
                have hx0 : 0 ≤ X := by omega
                have hl0 : 0 < l.length := by omega
                have hsu := hsml.out _ (List.getElem_mem h3)
                have hgu := List.getElem?_eq_getElem h3
                generalize l[X.toNat % l.length] = u at hsu hgu
                clear hbad
                obtain ⟨u0, u1, u2, u3⟩ := u
                simp only at hsu
                have hmL : mc ≤ maxLen := by unfold maxLen; omega
                by_cases k3 : kind = 3
                · subst k3
                  clear q0 q1 q2 kx
                  have P1 := take_ref_ok ma mc l X ⟨u0, u1, u2, u3⟩ _ (by omega) hmc hmL (St.rd (by omega) 4 hst1.out rfl) hx0 hl0 hgu; simp only [valU] at P1
                  replace P1 := Lib.hid P1
                  go_wp2_with fail
                  refine Calls.mono P1.out ?_
                  rintro e w4 ⟨v', rfl, hN⟩
                  clear P1
                  have H4 := hst1.out.thru hN.below
                  obtain ⟨zo4, co4, fo4⟩ := H4.box 2 rfl
                  obtain ⟨zw4, cw4, fw4⟩ := H4.box 0 rfl
                  have H5 := ((((((((H4.front 0 rfl).set 0 rfl 0 (.int .i64 u0) (by simp))).set 0 rfl 1 (.int .i64 u1) (by simp))).set 0 rfl 2 (.int .i64 u2) (by simp))).set 0 rfl 3 (.string u3) (by simp))
                  have P2 := Calls.rd_at 3 H5 rfl fun S h => at_ok d l X ⟨u0, u1, u2, u3⟩ _ S h hx0 hl0 hgu; (try simp only [valU, zeroU] at P2); replace H4 := Lib.hid H4; replace H5 := Lib.hid H5
                  replace P2 := Lib.hid P2
                  go_wp2_with fail
                  refine Calls.mono P2.out ?_
                  rintro e w5 ⟨rfl, H6⟩
                  clear P2
                  obtain ⟨zg4, cg4, fg4⟩ := H6.box 1 rfl
                  have H7 := (((((((((H6.front 1 rfl).set 0 rfl 0 (.int .i64 u0) (by simp))).set 0 rfl 1 (.int .i64 u1) (by simp))).set 0 rfl 2 (.int .i64 u2) (by simp))).set 0 rfl 3 (.string u3) (by simp)))
                  have H8 := ((H7.front 4 rfl).front 4 rfl).drops 4
                  replace H8 := Lib.hid H8
                  clear H6 H7 H4 H5
                  go_wp2_with fail
                  go_meet
                  exact ⟨l, ⟨u0, u1, u2, u3⟩, _, rfl, rfl, hl2, hsml.out, H8.out⟩
                have q3 : (kind == 3) = false := by simpa using k3
                by_cases k4 : kind = 4
                · subst k4
                  clear q0 q1 q2 q3 k3 kx
                  have P1 := take_ref_ok ma mc l X ⟨u0, u1, u2, u3⟩ _ (by omega) hmc hmL (St.rd (by omega) 4 hst1.out rfl) hx0 hl0 hgu; simp only [valU] at P1
                  replace P1 := Lib.hid P1
                  go_wp2_with fail
                  refine Calls.mono P1.out ?_
                  rintro e w4 ⟨v', rfl, hN⟩
                  clear P1
                  have H4 := hN.thru (hst1.out.front 4 rfl)
                  obtain ⟨zo4, co4, fo4⟩ := H4.box 3 rfl
                  obtain ⟨zw4, cw4, fw4⟩ := H4.box 1 rfl
                  have H5 := ((((((((H4.front 1 rfl).set 0 rfl 0 (.int .i64 u0) (by simp))).set 0 rfl 1 (.int .i64 u1) (by simp))).set 0 rfl 2 (.int .i64 u2) (by simp))).set 0 rfl 3 (.string u3) (by simp))
                  have P2 := Calls.st_at 4 H5 rfl fun S h => take_ok d l X ⟨u0, u1, u2, u3⟩ _ S h hx0 hl0 hgu; (try simp only [valU, zeroU] at P2); replace H4 := Lib.hid H4; replace H5 := Lib.hid H5
                  replace P2 := Lib.hid P2
                  go_wp2_with fail
                  refine Calls.mono P2.out ?_
                  rintro e w5 ⟨rfl, H6⟩
                  clear P2
                  obtain ⟨zg4, cg4, fg4⟩ := H6.box 3 rfl
                  have H7 := (((((((((H6.front 3 rfl).set 0 rfl 0 (.int .i64 u0) (by simp))).set 0 rfl 1 (.int .i64 u1) (by simp))).set 0 rfl 2 (.int .i64 u2) (by simp))).set 0 rfl 3 (.string u3) (by simp)))
                  have H8 := ((H7.front 3 rfl).front 2 rfl).drops 4
                  replace H8 := Lib.hid H8
                  clear H6 H7 H4 H5
                  go_wp2_with fail
                  go_meet
                  exact ⟨_, ⟨u0, u1, u2, u3⟩, _, rfl, rfl, by simp; omega, small_cut hsml.out _ _, H8.out⟩
                have q4 : (kind == 4) = false := by simpa using k4
                by_cases k5 : kind = 5
                · subst k5
                  clear q0 q1 q2 q3 k3 q4 k4 kx
                  have P1 := double_ref_ok ma mc l X ⟨u0, u1, u2, u3⟩ _ (by omega) (St.rd (by omega) 4 hst1.out rfl) hx0 hl0 hgu
                  replace P1 := Lib.hid P1
                  go_wp2_with fail
                  refine Calls.mono P1.out ?_
                  rintro e w4 ⟨v', rfl, hN⟩
                  clear P1
                  have H4 := hN.thru (hst1.out.front 4 rfl)
                  obtain ⟨zo4, co4, fo4⟩ := H4.box 3 rfl
                  have P2 := Calls.st_at 4 H4 rfl fun S h => double_ok d l X ⟨u0, u1, u2, u3⟩ _ S h hx0 hl0 hgu; replace H4 := Lib.hid H4
                  replace P2 := Lib.hid P2
                  go_wp2_with fail
                  refine Calls.mono P2.out ?_
                  rintro e w5 ⟨rfl, H6⟩
                  clear P2
                  replace H6 : St w none0 w5 [netA d (putL l ⟨u0, u1, u2, u3⟩), _, _, _, _] := H6
                  have H8 := (((((H6.front 2 rfl).front 3 rfl).front 3 rfl).front 3 rfl).drops 4)
                  replace H8 := Lib.hid H8
                  clear H6 H4
                  go_wp2_with fail
                  go_meet
                  exact ⟨_, ⟨0, 0, 0, ByteArray.empty⟩, _, rfl, rfl, (put_len hl2), (small_put hsml.out hsu), H8.out⟩
                have q5 : (kind == 5) = false := by simpa using k5
                have k67 : kind = 6 ∨ kind = 7 := by omega
                clear q0 q1 q2 q3 k3 q4 k4 q5 k5 kx
                by_cases hno : bit < 0 ∨ u3 = ⟨#[]⟩
                · have P2 : ∀ (W : World) (S : Nat → Prop), (netA d l).holds W S → Calls Try.prog 25 #[.pointer (some ⟨d, 0, none⟩), .int .i64 X, .int .i64 bit] W (Ret W (.bool false)) := fun W S h => by
                    by_cases hb0 : bit < 0
                    · exact flip_neg d l X bit W S h hx0 hl0 hb0
                    · exact flip_empty d l X bit ⟨u0, u1, u2, u3⟩ W S h hx0 hl0 hgu (by omega) (hno.resolve_left hb0)
                  replace P2 := Lib.hid P2
                  rcases k67 with rfl | rfl
                  all_goals
                    have P1 := flip_ref_no ma mc l X bit ⟨u0, u1, u2, u3⟩ _ (by omega) (St.rd (by omega) 4 hst1.out rfl) hx0 hl0 hgu hno
                    replace P1 := Lib.hid P1
                    go_wp2_with fail
                    refine Calls.mono P1.out ?_
                    rintro e w4 ⟨v', rfl, hN⟩
                    clear P1
                    have H4 := hN.thru (hst1.out.front 4 rfl)
                    obtain ⟨zo4, co4, fo4⟩ := H4.box 3 rfl
                    have P2 := Calls.rd_at 4 H4 rfl fun S h => P2.out _ S h; replace H4 := Lib.hid H4
                    replace P2 := Lib.hid P2
                    go_wp2_with fail
                    refine Calls.mono P2.out ?_
                    rintro e w5 ⟨rfl, H6⟩
                    clear P2
                    have H8 := (((((H6.front 1 rfl).front 2 rfl).front 2 rfl).front 4 rfl).drops 4)
                    replace H8 := Lib.hid H8
                    clear H6 H4
                    go_wp2_with fail
                    go_meet
                    exact ⟨_, ⟨0, 0, 0, ByteArray.empty⟩, _, rfl, rfl, hl2, hsml.out, H8.out⟩
                · obtain ⟨kb, rfl⟩ : ∃ kb : Nat, bit = (kb : Int) := ⟨bit.toNat, by omega⟩
                  have hu0 : 0 < u3.size := by
                    rcases Nat.eq_zero_or_pos u3.size with h | h
                    · exact absurd (ByteArray.ext (Array.eq_empty_of_size_eq_zero h)) (fun e => hno (.inr e))
                    · exact h
                  have R1 := fun (W : World) (h : Rd W ma (uns l)) => flip_ref_ok ma mc l X kb ⟨u0, u1, u2, u3⟩ W (by omega) hmc hmL h hx0 hl0 hgu hu0 hsu
                  have R2 := fun (W : World) (S : Nat → Prop) (h : (netA d l).holds W S) => flip_ok d l X kb ⟨u0, u1, u2, u3⟩ W S h hx0 hl0 hgu (by omega) hu0 hsu
                  simp only [flip_set _ _ _ _ h3, Int.toNat_natCast] at R1 R2
                  have hsm2 : small (l.set (X.toNat % l.length) ⟨u0, u1, u2, turnS u3 (kb % (8 * u3.size))⟩) := small_set hsml.out _ (by show (turnS _ _).size ≤ 1000; rw [turn_len]; exact hsu)
                  have hln2 : (l.set (X.toNat % l.length) ⟨u0, u1, u2, turnS u3 (kb % (8 * u3.size))⟩).length ≤ 200 := by rw [List.length_set]; exact hl2
                  generalize l.set (X.toNat % l.length) ⟨u0, u1, u2, turnS u3 (kb % (8 * u3.size))⟩ = l' at *
                  replace R1 := Lib.hid R1; replace R2 := Lib.hid R2; replace hno := Lib.hid hno
                  rcases k67 with rfl | rfl
                  all_goals
                    have P1 := R1.out _ (St.rd (by omega) 4 hst1.out rfl)
                    replace P1 := Lib.hid P1
                    go_wp2_with fail
                    refine Calls.mono P1.out ?_
                    rintro e w4 ⟨v', rfl, hN⟩
                    clear P1
                    have H4 := hN.thru (hst1.out.front 4 rfl)
                    obtain ⟨zo4, co4, fo4⟩ := H4.box 3 rfl
                    have P2 := Calls.st_at 4 H4 rfl fun S h => R2.out _ S h; replace H4 := Lib.hid H4
                    replace P2 := Lib.hid P2
                    go_wp2_with fail
                    refine Calls.mono P2.out ?_
                    rintro e w5 ⟨rfl, H6⟩
                    clear P2
                    have H8 := (((((H6.front 2 rfl).front 3 rfl).front 3 rfl).front 3 rfl).drops 4)
                    replace H8 := Lib.hid H8
                    clear H6 H4
                    go_wp2_with fail
                    go_meet
                    exact ⟨_, ⟨0, 0, 0, ByteArray.empty⟩, _, rfl, rfl, hln2, hsm2, H8.out⟩
            · have q3 : (kind == 3) = false := by simp; omega
              have q4 : (kind == 4) = false := by simp; omega
              have q5 : (kind == 5) = false := by simp; omega
              have q6 : (kind == 6) = false := by simp; omega
              have q7 : (kind == 7) = false := by simp; omega
              have H8 := (((hst1.out.front 1 rfl).front 4 rfl).front 4 rfl).drops 4
              replace H8 := Lib.hid H8
              go_wp2_with fail
              go_meet
              exact ⟨l, ⟨0, 0, 0, ByteArray.empty⟩, _, rfl, rfl, hl2, hsml.out, H8.out⟩
        case rest =>
          obtain ⟨l', x, bb, rfl, rfl, hl2', hsm', HT⟩ := hcut
          clear hst1 e0 e1 e2 e3 e4 e5 e6 hst hR hm0 hmc hmm hl2 hsml hus wx wbit
          obtain ⟨va, vc, hv5, _, _, _, hRv⟩ := St.slice (by omega) 1 HT rfl
          rw [hv5] at HT ⊢
          clear hv5
          obtain ⟨zg, cg, fg⟩ := HT.box 2 rfl
          obtain ⟨zb, cb, fb⟩ := HT.box 3 rfl
          obtain ⟨SA, hA, _, hback⟩ := HT.at 0 rfl
          have P1 := all_any d l' hl2' _ SA hA
          obtain ⟨x0, x1, x2, x3⟩ := x
          simp only [encU] at cg cb
          clear HT hA hRv
          replace P1 := Lib.hid P1; replace hback := Lib.hid hback; replace hsm' := Lib.hid hsm'
          cases bb
          all_goals
            go_wp2_with fail
            refine Calls.mono P1.out ?_
            rintro e w4 ⟨cv, rfl, h8⟩
            have H4 := hback.out _ _ h8
            clear hback h8 P1
            obtain ⟨ca, cc, rfl, _, _, _, hRc⟩ := St.slice (by omega) 0 H4 rfl
            have P2 := same_any l' l'.length rfl (by unfold maxLen; omega) ca cc va vc w4 hRc (St.rd (by omega) 2 H4 rfl)
            clear hRc
            replace H4 := Lib.hid H4; replace P2 := Lib.hid P2
            go_wp2_with fail
            refine Calls.mono (P2.out) ?_
            rintro e w5 ⟨rfl, hb5⟩
            have z5 := Below.size hb5; try simp only [World.size_alloc, World.size_setCell, World.size_drew] at z5
            have H5 := ((H4.out.thru hb5).drop 0 rfl).drops 2
            clear H4 P2
            replace H5 := Lib.hid H5
            go_wp2_with fail
            go_roundg (n - (j + 1))
            case measure => omega
            case rel => exact ⟨j + 1, l', by omega, rfl, by go_num, hl2', hsm', H5.out⟩
      · clear hmc hmm hm0 hR
        have P0 := at_none 0 wr
        simp only [zeroU] at P0
        replace hst := Lib.hid hst; replace P0 := Lib.hid P0
        go_wp2_with fail
        refine Calls.mono P0.out ?_
        rintro e w4 ⟨rfl, hb4⟩
        have H4 := (hst.out.thru hb4).skip (.cells #[.int .i64 0, .int .i64 0, .int .i64 0, .string ByteArray.empty] 31)
        have P1 := take_none 0 (w4.alloc (.cells #[.int .i64 0, .int .i64 0, .int .i64 0, .string ByteArray.empty] 31))
        simp only [zeroU] at P1
        clear hst P0
        replace H4 := Lib.hid H4; replace P1 := Lib.hid P1
        go_wp2_with fail
        refine Calls.mono P1.out ?_
        rintro e w5 ⟨rfl, hb5⟩
        have H5 := (H4.out.thru hb5).skip (.cells #[.int .i64 0, .int .i64 0, .int .i64 0, .string ByteArray.empty] 31)
        clear H4 P1
        have P2 := fun W => put_none ⟨0, 0, 0, ByteArray.empty⟩ W
        simp only [valU] at P2
        replace H5 := Lib.hid H5; replace P2 := Lib.hid P2
        go_wp2_with fail
        refine Calls.mono (P2.out _) ?_
        rintro e w6 ⟨rfl, hb6⟩
        have z6 := Below.size hb6; try simp only [World.size_alloc, World.size_setCell, World.size_drew] at z6
        have H6 := H5.out.thru hb6
        go_wp2_with fail
        refine Calls.mono (double_none _ _) ?_
        rintro e w7 ⟨rfl, hb7⟩
        have z7 := Below.size hb7; try simp only [World.size_alloc, World.size_setCell, World.size_drew] at z7
        have H7 := H6.thru hb7
        go_wp2_with fail
        refine Calls.mono (flip_none _ _ _) ?_
        rintro e w8 ⟨rfl, hb8⟩
        have z8 := Below.size hb8; try simp only [World.size_alloc, World.size_setCell, World.size_drew] at z8
        have H8 := H7.thru hb8
        go_wp2_with fail
        refine Calls.mono (len_none _) ?_
        rintro e w9 ⟨rfl, hb9⟩
        have z9 := Below.size hb9; try simp only [World.size_alloc, World.size_setCell, World.size_drew] at z9
        have H9 := H8.thru hb9
        go_wp2_with fail
        refine Calls.mono (clear_none _) ?_
        rintro e w10 ⟨rfl, hb10⟩
        have z10 := Below.size hb10; try simp only [World.size_alloc, World.size_setCell, World.size_drew] at z10
        have H10 := H9.thru hb10
        go_wp2_with fail
        go_ret
        exact H10.ret rfl
end Go.Proofs.Ytfdijoaclpnccaa.Net
