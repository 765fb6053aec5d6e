/- Texts that belong together, one behind another. -/
import Derived.Test.YtiaefmmcakagpaaBc
import Derived.Test.YtiaefmmcakagpaaBa
import Derived.Test.YtiaefmmcakagpaaBb
import Derived.Deep.CutBlock
import Derived.Deep.DeepCutAuto
/- The walk of release of the order's answer. -/
namespace Go.Proofs.Ytiaefmmcakagpaa.Ord
set_option linter.unusedSimpArgs false
set_option linter.unusedVariables false
open Go Go.RowKit Go.Shelf Go.Proofs.Ytiaefmmcakagpaa Go.Proofs.Ytiaefmmcakagpaa.Sift Go.Proofs.Ytiaefmmcakagpaa.Hold
open Go.Proofs.Ytiaefmmcakagpaa.DockWait (El enc val encs placed headV)
attribute [local irreducible] Calls

def rordC (s : Nat) (v : Value) (x : Or) : List Value := [.int .i64 x.mode, .int .i64 x.hold, .int .i64 x.now, .pointer (some ⟨s, 0, none⟩), v, .int .i64 x.came, .int .i64 x.ref, .int .i64 x.spl, .int .i64 x.giv, .int .i64 x.rel]
def rordP (o s : Nat) (x : Or) : Asn := exA fun v => sepA [cellA o (rordC s v x), readA 2 v x.rdy.length (dgs x.rdy), refA s x.c x.l]
theorem rordP_open {W w : World} {S : Nat → Prop} {o s : Nat} {x : Or} {r : List Asn} (h : St W S w (rordP o s x :: r)) : ∃ v, St W S w (cellA o (rordC s v x) :: readA 2 v x.rdy.length (dgs x.rdy) :: refA s x.c x.l :: r) := by
  obtain ⟨v, h1⟩ := St.unex 0 h rfl
  exact ⟨v, St.unsep 0 h1 rfl⟩
theorem rordP_shut {W w : World} {S : Nat → Prop} {o s : Nat} {x : Or} {v : Value} {r : List Asn} (h : St W S w (cellA o (rordC s v x) :: readA 2 v x.rdy.length (dgs x.rdy) :: refA s x.c x.l :: r)) : St W S w (rordP o s x :: r) :=
  St.ex (fun v => sepA [cellA o (rordC s v x), readA 2 v x.rdy.length (dgs x.rdy), refA s x.c x.l]) v (St.join [_, _, _] r h)
theorem dgs_len (l : List Dg) : (dgs l).length = l.length * 2 := DockDg.encs_len l
theorem dgs_drop (l : List Dg) : dgs (l.drop 1) = (dgs l).drop 2 := (DockDg.encs_drop l 1).symm
/-- s[1:] of a row that is only read. -/
theorem read_next {W w : World} {S0 : Nat → Prop} {l : List Asn} {g o cap n : Nat} {p : List Dg} (i : Nat) (h : St W S0 w l) (hi : l[i]? = some (readA 2 (.slice (some ⟨g, o, none⟩) (n + 1) cap) (n + 1) (dgs p))) (hp : p.length = n + 1) (o' cap' : Nat) (hc : (cap' = 0 ∧ n = 0) ∨ (o' = o + 2 ∧ cap' = cap - 1)) :
    St W S0 w (readA 2 (.slice (some ⟨g, o', none⟩) n cap') n (dgs (p.drop 1)) :: l.eraseIdx i) := by
  obtain ⟨h1, a, c0, e, h2, h3, _⟩ := St.reads i h hi
  cases e
  refine St.read_part i h hi (by rw [dgs_len, List.length_drop, hp]; rfl) (by omega) (by omega) fun j u hu => ?_
  rw [dgs_drop, List.getElem?_drop] at hu
  refine ⟨2 + j, hu, ?_⟩
  rcases hc with ⟨_, rfl⟩ | ⟨rfl, _⟩
  · have := (List.getElem?_eq_some_iff.1 hu).1
    rw [dgs_len, hp] at this
    omega
  · omega
def relY (x : Or) (p : List Dg × Int) (j : Nat) : Or := { x with rdy := p.1, spl := p.2, rel := x.rel + j }
/-- What is left of what can be received, ahead of one more. -/
def lessR (p : List Dg × Int) : List Dg × Int := if p.1.length < 32 then p else (p.1.drop 1, p.2 + 1)
theorem step_less (p : List Dg × Int) (d : Dg) : stepR p d = ((lessR p).1 ++ [d], (lessR p).2) := by
  unfold stepR lessR
  split <;> rfl

set_option maxRecDepth 100000 in
set_option maxHeartbeats 2000000 in
theorem rrelease_st {W' w : World} {S0 : Nat → Prop} {r : List Asn} (o : Nat) (x : Or) (v : Value) (ds : List Dg) (hd : ds.length ≤ 100) (hb : 0 ≤ x.spl ∧ x.spl ≤ 100000 ∧ 0 ≤ x.rel ∧ x.rel ≤ 100000 ∧ x.rdy.length ≤ 32)
    (s : Nat) (H : St W' S0 w (rordP o s x :: rowA 2 v ds.length (dgs ds) :: r)) :
    Calls Try.prog 106 #[.pointer (some ⟨o, 0, none⟩), v] w (fun e w' => e = .returned (.int .i64 ds.length) ∧ St W' S0 w' (rordP o s (relM x ds) :: r)) := by
  obtain ⟨i0, hi, hz, hz1, hz2⟩ := info_parts DelDg.el_info
  obtain ⟨v1, H1⟩ := rordP_open H
  have H2 : St W' S0 w (cellA o (rordC s v1 x) :: readA 2 v1 x.rdy.length (dgs x.rdy) :: refA s x.c x.l :: rowA 2 v ds.length (dgs ds) :: r) := H1
  obtain ⟨a, cap, rfl, _⟩ := St.slice (by omega) 3 H2 rfl
  have hfact := fun j => relR_facts (ds.take j) (x.rdy, x.spl) hb.2.2.2.2
  clear H H1
  replace H2 := Lib.hid H2; replace hfact := Lib.hid hfact
  go_enter Try.func106, Try.ntmps106
  go_wp2_with fail
  go_loopg [5] ds.length (fun g v5 wr => ∃ j : Nat, j ≤ ds.length ∧ Hid (g = ds.length - j) ∧ v5 = .int .i64 j ∧ ∃ v2, Hid (St W' S0 wr (cellA o (rordC s v2 (relY x (relR (x.rdy, x.spl) (ds.take j)) j)) :: readA 2 v2 (relR (x.rdy, x.spl) (ds.take j)).1.length (dgs (relR (x.rdy, x.spl) (ds.take j)).1) :: refA s x.c x.l :: rowA 2 (.slice a ds.length cap) ds.length (dgs ds) :: r)))
  case atStart => exact ⟨0, by omega, Lib.hid rfl, rfl, v1, by simpa [relY, relR] using H2⟩
  case round =>
    obtain ⟨j, hj, hg, rfl, v2, hst⟩ := hrel
    clear H2
    by_cases hlt : j < ds.length
    · have hp := hfact.out j
      have hsn : relR (x.rdy, x.spl) (ds.take (j + 1)) = stepR (relR (x.rdy, x.spl) (ds.take j)) ds[j] := by rw [List.take_succ_eq_append_getElem hlt, relR_snoc]
      rw [List.length_take, show min j ds.length = j by omega] at hp
      generalize relR (x.rdy, x.spl) (ds.take j) = p at *
      rw [step_less] at hsn
      have hq1 : (j : Int) < ds.length := by omega
      obtain ⟨p1, p2⟩ := p
      simp only at hp hsn
      obtain ⟨q1, q2, q3, _⟩ := hp
      obtain ⟨hx1, ga, gc, rfl, hx2, hx3, hx4⟩ := St.reads 1 hst.out rfl
      simp only at hst hx1 hx2 hx4
      obtain ⟨z1, c1, f1⟩ := hst.out.box 0 rfl
      unfold rordC relY at c1
      simp only at c1
      replace hsn := Lib.hid hsn
      go_upto_if 17 with fail
      go_cut [] (fun wx => ∃ v3, (lessR (p1, p2)).1.length ≤ 31 ∧ Hid (St W' S0 wx (cellA o (rordC s v3 (relY x (lessR (p1, p2)) j)) :: readA 2 v3 (lessR (p1, p2)).1.length (dgs (lessR (p1, p2)).1) :: refA s x.c x.l :: rowA 2 (.slice a ds.length cap) ds.length (dgs ds) :: r)))
      case first =>
        by_cases hl : p1.length < 32
        · have t0 : decide ((p1.length : Int) = 32) = false := decide_eq_false (by omega)
          have t1 : ((p1.length : Int) == 32) = false := by simp; omega
          have hle : lessR (p1, p2) = (p1, p2) := by unfold lessR; rw [if_pos hl]
          replace hle := Lib.hid hle
          go_wp2_with fail
          go_meet
          rw [hle.out]
          exact ⟨_, by simp only; omega, hst⟩
        · have t0 : decide ((p1.length : Int) = 32) = true := decide_eq_true (by omega)
          have t1 : ((p1.length : Int) == 32) = true := by simp; omega
          have hle : lessR (p1, p2) = (p1.drop 1, p2 + 1) := by unfold lessR; rw [if_neg hl]
          have hp32 : p1.length = 32 := by omega
          rcases hx4 with ⟨_, h0, _⟩ | ⟨g, off, rfl, hgl, _⟩
          · omega
          · have hst2 := hst.out
            rw [show p1.length = 31 + 1 by omega] at hst2 c1
            simp only [show p1.length = 32 by omega] at t0 t1
            have hg1 : ¬ gc = 1 := by omega
            have hg2 : 32 ≤ gc := by omega
            have HN := read_next 1 hst2 rfl hp32 (off + 2) (gc - 1) (.inr ⟨rfl, rfl⟩)
            have HS := (((HN.front 1 rfl).set 0 rfl 4 (.slice (some ⟨g, off + 2, none⟩) 31 (gc - 1)) (by simp [rordC])).set 0 rfl 7 (.int .i64 (p2 + 1)) (by simp [rordC]))
            unfold maxLen at hx3
            replace hle := Lib.hid hle; replace hst2 := Lib.hid hst2; replace HN := Lib.hid HN; replace HS := Lib.hid HS
            go_wp2_with fail
            go_meet
            rw [hle.out]
            have h31 : (p1.drop 1).length = 31 := by rw [List.length_drop]; omega
            exact ⟨_, by simp only; omega, Lib.hid (by simp only [h31]; exact HS.out)⟩
      case rest =>
        obtain ⟨v3, hl31, hst3⟩ := hcut
        clear hst c1 f1 z1 hx1 hx2 hx3 hx4 q1 q2 q3
        have hrel : 0 ≤ x.rel ∧ x.rel ≤ 100000 ∧ ds.length ≤ 100 := ⟨hb.2.2.1, hb.2.2.2.1, hd⟩
        generalize lessR (p1, p2) = p' at *
        obtain ⟨p1, p2⟩ := p'
        simp only at hl31 hsn
        obtain ⟨hx1, ga, gc, rfl, hx2, hx3, hx4⟩ := St.reads 1 hst3.out rfl
        simp only at hst3 hx1 hx2 hx4
        have ga0 : ga = none → p1.length = 0 := by
          rcases hx4 with ⟨_, h, _⟩ | ⟨g, off, rfl, _⟩
          · exact fun _ => h
          · intro e; cases e
        obtain ⟨b, off, rfl, hbk, hc⟩ := dgs_at (St.rd (by omega) 3 hst3.out rfl) rfl (by omega)
        obtain ⟨e0, e1⟩ := hc j hlt
        generalize ds[j] = d at *
        obtain ⟨d1, d2⟩ := d
        simp only at e0 e1
        obtain ⟨z1, c1, f1⟩ := hst3.out.box 0 rfl
        unfold rordC relY at c1
        simp only at c1
        have H4 := hst3
        have hr0 : Rd wc ga (dgs p1) := St.reads_rd 1 hst3.out rfl
        clear hc hx4 hx1 hst3 hfact
        unfold maxLen at hx3
        replace H4 := Lib.hid H4; replace ga0 := Lib.hid ga0; replace hr0 := Lib.hid hr0
        go_wp2_with fail
        refine wp_region_to 15 [0, 2, 3, 4, 5, 7, 8, 9, 10] [true, false, true, true, true, true, false, true, true, true, true, false, false, false, false, false] 6 #[true, false, true, true, true, true, false, true, true, true, true, false, false, false, false, false] (by kernel_rfl) rfl (by kernel_rfl) (by kernel_rfl) rfl (by kernel_rfl) (by kernel_rfl) (by intro c a a' w e h; obtain ⟨t, d⟩ := a; obtain ⟨t', d'⟩ := a'; obtain rfl : d = d' := e; exact h) ?_
        intro hs
        simp only [pickB]
        repeat (go_big_quiet_step (fail))
        refine wpQuiet_nil ?_
        clear hs
        intro W hW
        obtain rfl := hW
        replace H4 := H4.out
        have Z : St W none0 W.drew [] := (St.zero W).drew
        have hr := hr0.out
        refine to_two (i := 1) (j := 11) (by kernel_rfl) (fun K hK => ?_) (fun K hK => ?_) <;> simp only [List.drop_succ_cons, List.drop_zero, List.take_succ_cons, List.take_zero]
        · go_wp2_with fail
          have E1 := Z.alloc [] 45
          refine hK _ _ E1.below ?_
          clear hK K
          have E2 := E1.row_empty (size := 2) 0 rfl
          have hr2 := hr.of_st E2
          refine to_two (i := 6) (j := 11) (by kernel_rfl) (fun K hK => ?_) (fun K hK => ?_) <;> simp only [List.drop_succ_cons, List.drop_zero, List.take_succ_cons, List.take_zero]
          · go_wp2_with (at_builtin; (refine wpList_appRd rfl (.tmp 34) (.tmp 38) _ rfl 45 i0 _ 2 24 Try.underlying48 hi hz hz1 hz2 rfl (by omega) 0 _ 0 [] rfl E2 rfl ga p1.length gc (dgs p1) rfl (dgs_len p1) hr2 ga0.out (DockDg.encs_one p1) (by omega) (by omega) ?_; intro wv5 w5 HA; (try simp only [Nat.zero_add, List.nil_append] at HA)))
            refine hK _ _ HA.below ?_
            clear hK K
            refine to_one (i := 11) (by kernel_rfl) fun K hK => ?_
            simp only [List.drop_succ_cons, List.drop_zero, List.take_succ_cons, List.take_zero]
            go_wp2_with fail
            have HB := St.alloc HA [.int .i64 d1, .string d2] 45
            try simp only [World.size_alloc, World.size_drew] at HB
            refine hK _ _ (St.below HB) ?_
            clear hK K
            refine to_one (i := 12) (by kernel_rfl) fun K hK => ?_
            simp only [List.drop_succ_cons, List.drop_zero, List.take_succ_cons, List.take_zero]
            go_wp2_with (at_builtin; (refine wpList_appRd rfl (.tmp 39) (.tmp 44) _ rfl 45 i0 _ 2 24 Try.underlying48 hi hz hz1 hz2 rfl (by omega) 1 _ p1.length (dgs p1) rfl HB rfl _ 1 1 [.int .i64 d1, .string d2] rfl rfl (St.box 0 HB rfl).rd (by simp) (by simp [Value.oneCell']) (by omega) (by omega) ?_; intro wv6 w6 HC))
            refine hK _ _ HC.below ?_
            clear hK K
            have hb6 := HC.below
            refine to_one (i := 13) (by kernel_rfl) fun K hK => ?_
            simp only [List.drop_succ_cons, List.drop_zero, List.take_succ_cons, List.take_zero]
            go_wp2_with fail
            refine hK _ _ hb6 ?_
            clear hK K
            refine to_one (i := 14) (by kernel_rfl) fun K hK => ?_
            simp only [List.drop_succ_cons, List.drop_zero, List.take_succ_cons, List.take_zero]
            go_wp2_with fail
            refine hK _ _ hb6 ?_
            clear hK K
            refine to_last (by kernel_rfl) (by kernel_rfl) fun K hK => ?_
            simp only [List.drop_succ_cons, List.drop_zero, List.take_succ_cons, List.take_zero]
            have HD : St W none0 w6 [rowA 2 wv6 (p1.length + 1) (dgs p1 ++ DockDg.enc (d1, d2))] := ((HC).front 0 rfl).drops 1
            rw [show dgs p1 ++ DockDg.enc (d1, d2) = dgs (p1 ++ [(d1, d2)]) from DockDg.encs_app p1 (d1, d2)] at HD
            obtain ⟨ga6, cap6, rfl, _⟩ := St.slice (by omega) 0 HD rfl
            have HF := H4.out.add HD
            clear HC HD H4
            obtain ⟨zq, cq, fq⟩ := HF.box 1 rfl
            unfold rordC relY at cq
            simp only at cq
            have HG := (HF.set 1 rfl 4 (.slice ga6 (p1.length + 1) cap6) (by simp [rordC])).set 0 rfl 9 (.int .i64 (x.rel + j + 1)) (by simp [rordC])
            have HI := (HG.to_read 1 rfl).arrN [1, 0, 3, 4, 2] rfl
            clear HG
            replace HF := Lib.hid HF; replace HI := Lib.hid HI
            go_wp2_with fail
            go_roundg (ds.length - (j + 1))
            case measure => have := hg.out; omega
            case rel =>
              refine ⟨j + 1, by omega, Lib.hid rfl, by go_num, .slice ga6 (p1.length + 1) cap6, Lib.hid ?_⟩
              rw [hsn.out, List.length_append]
              have hnc : x.rel + ((j + 1 : Nat) : Int) = x.rel + j + 1 := by omega
              unfold relY
              simp only [hnc]
              exact HI.out.drop 4 rfl
          · go_wp2_with fail
            have HB := St.alloc E2 [.int .i64 d1, .string d2] 45
            try simp only [World.size_alloc, World.size_drew] at HB
            refine hK _ _ (St.below HB) ?_
            clear hK K
            have hr3 := hr.of_st HB
            refine to_one (i := 6) (by kernel_rfl) fun K hK => ?_
            simp only [List.drop_succ_cons, List.drop_zero, List.take_succ_cons, List.take_zero]
            go_wp2_with (at_builtin; (refine wpList_appRd rfl (.tmp 34) (.tmp 38) _ rfl 45 i0 _ 2 24 Try.underlying48 hi hz hz1 hz2 rfl (by omega) 1 _ 0 [] rfl HB rfl ga p1.length gc (dgs p1) rfl (dgs_len p1) hr3 ga0.out (DockDg.encs_one p1) (by omega) (by omega) ?_; intro wv5 w5 HA; (try simp only [Nat.zero_add, List.nil_append] at HA)))
            refine hK _ _ HA.below ?_
            clear hK K
            refine to_one (i := 12) (by kernel_rfl) fun K hK => ?_
            simp only [List.drop_succ_cons, List.drop_zero, List.take_succ_cons, List.take_zero]
            go_wp2_with (at_builtin; (refine wpList_appRd rfl (.tmp 39) (.tmp 44) _ rfl 45 i0 _ 2 24 Try.underlying48 hi hz hz1 hz2 rfl (by omega) 0 _ p1.length (dgs p1) rfl HA rfl _ 1 1 [.int .i64 d1, .string d2] rfl rfl (St.box 1 HA rfl).rd (by simp) (by simp [Value.oneCell']) (by omega) (by omega) ?_; intro wv6 w6 HC))
            refine hK _ _ HC.below ?_
            clear hK K
            have hb6 := HC.below
            refine to_one (i := 13) (by kernel_rfl) fun K hK => ?_
            simp only [List.drop_succ_cons, List.drop_zero, List.take_succ_cons, List.take_zero]
            go_wp2_with fail
            refine hK _ _ hb6 ?_
            clear hK K
            refine to_one (i := 14) (by kernel_rfl) fun K hK => ?_
            simp only [List.drop_succ_cons, List.drop_zero, List.take_succ_cons, List.take_zero]
            go_wp2_with fail
            refine hK _ _ hb6 ?_
            clear hK K
            refine to_last (by kernel_rfl) (by kernel_rfl) fun K hK => ?_
            simp only [List.drop_succ_cons, List.drop_zero, List.take_succ_cons, List.take_zero]
            have HD : St W none0 w6 [rowA 2 wv6 (p1.length + 1) (dgs p1 ++ DockDg.enc (d1, d2))] := ((HC).front 0 rfl).drops 1
            rw [show dgs p1 ++ DockDg.enc (d1, d2) = dgs (p1 ++ [(d1, d2)]) from DockDg.encs_app p1 (d1, d2)] at HD
            obtain ⟨ga6, cap6, rfl, _⟩ := St.slice (by omega) 0 HD rfl
            have HF := H4.out.add HD
            clear HC HD H4
            obtain ⟨zq, cq, fq⟩ := HF.box 1 rfl
            unfold rordC relY at cq
            simp only at cq
            have HG := (HF.set 1 rfl 4 (.slice ga6 (p1.length + 1) cap6) (by simp [rordC])).set 0 rfl 9 (.int .i64 (x.rel + j + 1)) (by simp [rordC])
            have HI := (HG.to_read 1 rfl).arrN [1, 0, 3, 4, 2] rfl
            clear HG
            replace HF := Lib.hid HF; replace HI := Lib.hid HI
            go_wp2_with fail
            go_roundg (ds.length - (j + 1))
            case measure => have := hg.out; omega
            case rel =>
              refine ⟨j + 1, by omega, Lib.hid rfl, by go_num, .slice ga6 (p1.length + 1) cap6, Lib.hid ?_⟩
              rw [hsn.out, List.length_append]
              have hnc : x.rel + ((j + 1 : Nat) : Int) = x.rel + j + 1 := by omega
              unfold relY
              simp only [hnc]
              exact HI.out.drop 4 rfl
        · go_wp2_with fail
          have HB := St.alloc Z [.int .i64 d1, .string d2] 45
          try simp only [World.size_alloc, World.size_drew] at HB
          refine hK _ _ (St.below HB) ?_
          clear hK K
          refine to_one (i := 1) (by kernel_rfl) fun K hK => ?_
          simp only [List.drop_succ_cons, List.drop_zero, List.take_succ_cons, List.take_zero]
          go_wp2_with fail
          have E1 := HB.alloc [] 45
          try simp only [World.size_alloc, World.size_drew] at E1
          refine hK _ _ E1.below ?_
          clear hK K
          have E2 := E1.row_empty (size := 2) 0 rfl
          have hr2 := hr.of_st E2
          refine to_one (i := 6) (by kernel_rfl) fun K hK => ?_
          simp only [List.drop_succ_cons, List.drop_zero, List.take_succ_cons, List.take_zero]
          go_wp2_with (at_builtin; (refine wpList_appRd rfl (.tmp 34) (.tmp 38) _ rfl 45 i0 _ 2 24 Try.underlying48 hi hz hz1 hz2 rfl (by omega) 0 _ 0 [] rfl E2 rfl ga p1.length gc (dgs p1) rfl (dgs_len p1) hr2 ga0.out (DockDg.encs_one p1) (by omega) (by omega) ?_; intro wv5 w5 HA; (try simp only [Nat.zero_add, List.nil_append] at HA)))
          refine hK _ _ HA.below ?_
          clear hK K
          refine to_one (i := 12) (by kernel_rfl) fun K hK => ?_
          simp only [List.drop_succ_cons, List.drop_zero, List.take_succ_cons, List.take_zero]
          go_wp2_with (at_builtin; (refine wpList_appRd rfl (.tmp 39) (.tmp 44) _ rfl 45 i0 _ 2 24 Try.underlying48 hi hz hz1 hz2 rfl (by omega) 0 _ p1.length (dgs p1) rfl HA rfl _ 1 1 [.int .i64 d1, .string d2] rfl rfl (St.box 1 HA rfl).rd (by simp) (by simp [Value.oneCell']) (by omega) (by omega) ?_; intro wv6 w6 HC))
          refine hK _ _ HC.below ?_
          clear hK K
          have hb6 := HC.below
          refine to_one (i := 13) (by kernel_rfl) fun K hK => ?_
          simp only [List.drop_succ_cons, List.drop_zero, List.take_succ_cons, List.take_zero]
          go_wp2_with fail
          refine hK _ _ hb6 ?_
          clear hK K
          refine to_one (i := 14) (by kernel_rfl) fun K hK => ?_
          simp only [List.drop_succ_cons, List.drop_zero, List.take_succ_cons, List.take_zero]
          go_wp2_with fail
          refine hK _ _ hb6 ?_
          clear hK K
          refine to_last (by kernel_rfl) (by kernel_rfl) fun K hK => ?_
          simp only [List.drop_succ_cons, List.drop_zero, List.take_succ_cons, List.take_zero]
          have HD : St W none0 w6 [rowA 2 wv6 (p1.length + 1) (dgs p1 ++ DockDg.enc (d1, d2))] := ((HC).front 0 rfl).drops 1
          rw [show dgs p1 ++ DockDg.enc (d1, d2) = dgs (p1 ++ [(d1, d2)]) from DockDg.encs_app p1 (d1, d2)] at HD
          obtain ⟨ga6, cap6, rfl, _⟩ := St.slice (by omega) 0 HD rfl
          have HF := H4.out.add HD
          clear HC HD H4
          obtain ⟨zq, cq, fq⟩ := HF.box 1 rfl
          unfold rordC relY at cq
          simp only at cq
          have HG := (HF.set 1 rfl 4 (.slice ga6 (p1.length + 1) cap6) (by simp [rordC])).set 0 rfl 9 (.int .i64 (x.rel + j + 1)) (by simp [rordC])
          have HI := (HG.to_read 1 rfl).arrN [1, 0, 3, 4, 2] rfl
          clear HG
          replace HF := Lib.hid HF; replace HI := Lib.hid HI
          go_wp2_with fail
          go_roundg (ds.length - (j + 1))
          case measure => have := hg.out; omega
          case rel =>
            refine ⟨j + 1, by omega, Lib.hid rfl, by go_num, .slice ga6 (p1.length + 1) cap6, Lib.hid ?_⟩
            rw [hsn.out, List.length_append]
            have hnc : x.rel + ((j + 1 : Nat) : Int) = x.rel + j + 1 := by omega
            unfold relY
            simp only [hnc]
            exact HI.out.drop 4 rfl
    · have hj2 : j = ds.length := by omega
      have hrl : (relR (x.rdy, x.spl) (ds.take j)) = relR (x.rdy, x.spl) ds := by rw [hj2, List.take_length]
      rw [hrl, hj2] at hst
      have H9 := (hst.out.drop 3 rfl)
      clear hj2 hrl
      replace hst := Lib.hid hst; replace H9 := Lib.hid H9
      go_wp2_with fail
      go_ret
      exact ⟨rfl, rordP_shut H9.out⟩
end Go.Proofs.Ytiaefmmcakagpaa.Ord

/- The walks of Tick, Flush, Recv, New and Check of the order's answer. -/
namespace Go.Proofs.Ytiaefmmcakagpaa.Ord
set_option linter.unusedSimpArgs false
set_option linter.unusedVariables false
open Go Go.RowKit Go.Shelf Go.Proofs.Ytiaefmmcakagpaa Go.Proofs.Ytiaefmmcakagpaa.Sift Go.Proofs.Ytiaefmmcakagpaa.Hold
open Go.Proofs.Ytiaefmmcakagpaa.DockWait (El enc val encs placed headV)
attribute [local irreducible] Calls

theorem rcheck_any (mode hold : Int) (w : World) : Calls Try.prog 41 #[.agg #[.int .i64 mode, .int .i64 hold]] w (Ret w (.int .i64 (checkF mode hold))) := by
  go_enter Try.func41, Try.ntmps41
  go_wp2_with fail
  all_goals
    go_ret
    exact Ret.mk (congrArg (Value.int .i64) (by unfold checkF; (repeat' split) <;> omega)) (by repeat (first | with_reducible exact Below.refl _ _ | (with_reducible refine Below.al ?_) | (with_reducible refine Below.drew ?_) | (with_reducible refine Below.set ?_ (by first | (simp; done) | omega | (simp; omega))) | (with_reducible refine Below.thru ?_ (by assumption)) | (with_reducible refine Below.chg ?_ (by assumption) (by first | (simp; done) | omega | (simp; omega)))))
/-- What stays of its own cells, while things are released. -/
def rordE (o s : Nat) (mode hold now : Int) : Asn := exA fun (p : Value × Int × Int × Int × Int × Int) => cellA o [.int .i64 mode, .int .i64 hold, .int .i64 now, .pointer (some ⟨s, 0, none⟩), p.1, .int .i64 p.2.1, .int .i64 p.2.2.1, .int .i64 p.2.2.2.1, .int .i64 p.2.2.2.2.1, .int .i64 p.2.2.2.2.2]
theorem rordE_of {W w : World} {S : Nat → Prop} {o s : Nat} {v : Value} {x : Or} {r : List Asn} (h : St W S w (cellA o (rordC s v x) :: r)) : St W S w (rordE o s x.mode x.hold x.now :: r) :=
  St.ex (fun (p : Value × Int × Int × Int × Int × Int) => cellA o [.int .i64 x.mode, .int .i64 x.hold, .int .i64 x.now, .pointer (some ⟨s, 0, none⟩), p.1, .int .i64 p.2.1, .int .i64 p.2.2.1, .int .i64 p.2.2.2.1, .int .i64 p.2.2.2.2.1, .int .i64 p.2.2.2.2.2]) (v, x.came, x.ref, x.spl, x.giv, x.rel) h
theorem rordE_P {W w : World} {S : Nat → Prop} {o s : Nat} {x : Or} {r : List Asn} (h : St W S w (rordP o s x :: r)) : St W S w [rordE o s x.mode x.hold x.now] := by
  obtain ⟨v, h1⟩ := rordP_open h
  exact (rordE_of h1).drops 1
theorem rordE_cell {W w : World} {S : Nat → Prop} {o s : Nat} {mode hold now : Int} {r : List Asn} (h : St W S w (rordE o s mode hold now :: r)) :
    w.cell? ⟨o, 0, none⟩ = some (.int .i64 mode) ∧ w.cell? ⟨o, 1, none⟩ = some (.int .i64 hold) ∧ w.cell? ⟨o, 2, none⟩ = some (.int .i64 now) ∧ w.cell? ⟨o, 3, none⟩ = some (.pointer (some ⟨s, 0, none⟩)) := by
  obtain ⟨p, h1⟩ := St.unex 0 h rfl
  have c := (h1.box 0 rfl).cells
  exact ⟨c 0, c 1, c 2, c 3⟩
theorem rdue_at {W w : World} {S0 : Nat → Prop} {r : List Asn} {o s : Nat} {x : Or} {n : Nat} {last : Int} (hg : Good x n last) (now : Int) (H : St W S0 w (rordP o s x :: r)) :
    Calls Try.prog 28 #[.pointer (some ⟨s, 0, none⟩), .int .i64 now] w (fun e w' => ∃ v', e = .returned v' ∧ St W S0 w' (rordP o s { x with c := (dueM x.c x.l now).2.1, l := (dueM x.c x.l now).2.2 } :: rowA 2 v' (dueM x.c x.l now).1.length (dgs (dueM x.c x.l now).1) :: r)) := by
  obtain ⟨v, H1⟩ := rordP_open H
  have P := ex_at 2 H1 rfl fun S h => rdue_any s x.c x.l now hg.ok (by have := hg.len; omega) _ S h
  refine P.mono ?_
  rintro e w' ⟨v', rfl, h⟩
  exact ⟨v', rfl, rordP_shut (h.arrN [2, 3, 1, 0] rfl)⟩
theorem rrelease_due {W w : World} {S0 : Nat → Prop} {r : List Asn} {o s : Nat} {x : Or} {n : Nat} {last : Int} (hg : Good x n last) (hn : n ≤ 1000) (now : Int) (v : Value)
    (H : St W S0 w (rordP o s { x with c := (dueM x.c x.l now).2.1, l := (dueM x.c x.l now).2.2 } :: rowA 2 v (dueM x.c x.l now).1.length (dgs (dueM x.c x.l now).1) :: r)) :
    Calls Try.prog 106 #[.pointer (some ⟨o, 0, none⟩), v] w (fun e w' => e = .returned (.int .i64 (dueK x now)) ∧ St W S0 w' (rordP o s (dueS x now) :: r)) := by
  have h1 := due_len hg now
  have h2 := hg.bds
  have h3 := hg.s0
  exact rrelease_st o { x with c := (dueM x.c x.l now).2.1, l := (dueM x.c x.l now).2.2 } v (dueM x.c x.l now).1 (by unfold dueK at h1; omega) ⟨h3, by show x.spl ≤ 100000; omega, h2.1, by show x.rel ≤ 100000; omega, hg.rlen⟩ s H

set_option maxRecDepth 100000 in
set_option maxHeartbeats 1000000 in
theorem rtick_st {W w : World} {S0 : Nat → Prop} {r : List Asn} (o s : Nat) (x : Or) {n : Nat} {last : Int} (hg : Good x n last) (hn : n ≤ 1000) (H : St W S0 w (rordP o s x :: r)) :
    Calls Try.prog 79 #[.pointer (some ⟨o, 0, none⟩)] w (fun e w' => e = .returned (.int .i64 (dueK (tickA x) (tickA x).now)) ∧ St W S0 w' (rordP o s (tickS x) :: r)) := by
  obtain ⟨v, H1⟩ := rordP_open H
  obtain ⟨z, c, f⟩ := H1.box 0 rfl
  have h0 := hg.n0
  have h1 := hg.n1
  have hg2 := hg.tickA
  have H2 : St W S0 _ (rordP o s (tickA x) :: r) := rordP_shut (x := tickA x) (H1.set 0 rfl 2 (.int .i64 (min (x.now + 1) 1099511627776)) (by simp [rordC]))
  have HC : St W S0 _ [rordE o s (tickA x).mode (tickA x).hold (tickA x).now] := rordE_P H2
  have hcl0 : ∀ (s' : Cls W S0 [rordE o s (tickA x).mode (tickA x).hold (tickA x).now]), s'.it.cell? ⟨o, 3, none⟩ = some (.pointer (some ⟨s, 0, none⟩)) := fun s' => (rordE_cell s'.st).2.2.2
  have hcl4 : ∀ (s' : Cls W S0 [rordE o s (tickA x).mode (tickA x).hold (tickA x).now]), s'.it.cell? ⟨o, 2, none⟩ = some (.int .i64 (tickA x).now) := fun s' => (rordE_cell s'.st).2.2.1
  unfold tickS
  unfold rordC at c
  have hnow : (tickA x).now = min (x.now + 1) 1099511627776 := rfl
  clear H1 H
  generalize tickA x = y at *
  have P := rdue_at hg2 (min (x.now + 1) 1099511627776) H2.drew
  rw [hnow] at hcl4 HC hcl0 ⊢
  replace H2 := Lib.hid H2; replace HC := Lib.hid HC; replace P := Lib.hid P; replace hnow := Lib.hid hnow
  go_enter Try.func79, Try.ntmps79
  go_wp2_with fail
  haveI := St.ne HC.out
  refine wp_region_madeC HC.out [0, 1, 2, 3, 4, 5, 6, 7, 8] [true, true, true, true, true, true, true, true, true, false, false, false] 3 #[true, true, true, true, true, true, true, true, true, false, false, false] (by kernel_rfl) rfl (by kernel_rfl) (by kernel_rfl) rfl (by kernel_rfl) (by kernel_rfl) (by intro c a a' w e h; obtain ⟨t, d⟩ := a; obtain ⟨t', d'⟩ := a'; obtain rfl : d = d' := e; exact h) ?_
  simp only [pickB]
  repeat (go_big_quiet_step (fail))
  refine wpQuiet_nil ?_
  refine held_one (i := 9) (by kernel_rfl) fun K hK => ?_
  simp only [List.drop_succ_cons, List.drop_zero, List.take_succ_cons, List.take_zero]
  go_wp2_with fail
  refine Calls.mono P.out ?_
  rintro e w4 ⟨v4, rfl, H4⟩
  have HC4 : St W S0 w4 [rordE o s y.mode y.hold (min (x.now + 1) 1099511627776)] := by rw [← hnow.out]; have hq := rordE_P H4; exact hq
  have P2 := rrelease_due hg2 hn (min (x.now + 1) 1099511627776) v4 H4
  clear P H4 H2
  replace HC4 := Lib.hid HC4; replace P2 := Lib.hid P2
  go_wp2_with fail
  refine hK _ _ HC4.out ?_
  clear hK K
  refine held_one (i := 10) (by kernel_rfl) fun K hK => ?_
  simp only [List.drop_succ_cons, List.drop_zero, List.take_succ_cons, List.take_zero]
  go_wp2_with fail
  refine Calls.mono P2.out ?_
  rintro e w5 ⟨rfl, H5⟩
  have HC5 : St W S0 w5 [rordE o s y.mode y.hold (min (x.now + 1) 1099511627776)] := by rw [← hnow.out]; have hq := rordE_P H5; exact hq
  clear P2
  replace HC5 := Lib.hid HC5; replace H5 := Lib.hid H5
  go_wp2_with fail
  refine hK _ _ HC5.out ?_
  clear hK K
  refine held_one (i := 11) (by kernel_rfl) fun K hK => ?_
  simp only [List.drop_succ_cons, List.drop_zero, List.take_succ_cons, List.take_zero]
  go_wp2_with fail
  refine hK _ _ HC5.out ?_
  clear hK K
  refine held_done (by kernel_rfl) ?_
  go_wp2_with fail
  go_ret
  exact ⟨rfl, H5.out⟩
set_option maxRecDepth 100000 in
set_option maxHeartbeats 1000000 in
theorem rflush_st {W w : World} {S0 : Nat → Prop} {r : List Asn} (o s : Nat) (x : Or) {n : Nat} {last : Int} (hg : Good x n last) (hn : n ≤ 1000) (H : St W S0 w (rordP o s x :: r)) :
    Calls Try.prog 81 #[.pointer (some ⟨o, 0, none⟩)] w (fun e w' => e = .returned (.int .i64 (dueK x (lateM x.l).1)) ∧ St W S0 w' (rordP o s (flushS x) :: r)) := by
  obtain ⟨v, H1⟩ := rordP_open H
  obtain ⟨z, c, f⟩ := H1.box 0 rfl
  obtain ⟨S1, hS1⟩ := H1.held 2 rfl
  have P := rlatest_any s x.c x.l (by have := hg.len; omega) _ S1 hS1
  unfold flushS
  unfold rordC at c
  clear H1 hS1
  generalize lateM x.l = R at *
  obtain ⟨R1, R2⟩ := R
  simp only at P ⊢
  replace P := Lib.hid P; replace H := Lib.hid H
  go_enter Try.func81, Try.ntmps81
  go_wp2_with fail
  refine Calls.mono (P.out) ?_
  rintro e w4 ⟨rfl, hb4⟩
  have z4 := Below.size hb4; try simp only [World.size_alloc, World.size_setCell, World.size_drew] at z4
  obtain ⟨c4_0, f4_0⟩ := Below.blk hb4 (b := o) (by first | (simp; done) | omega | (simp; omega))
  have z4_0 : o < w4.heap.size := (by first | (simp; done) | omega | (simp; omega))
  have H5 := H.out.thru hb4
  have P1 := rdue_at hg R1 H5
  clear P H H5
  replace P1 := Lib.hid P1
  go_wp2_with fail
  refine Calls.mono P1.out ?_
  rintro e w6 ⟨v6, rfl, H6⟩
  have P2 := rrelease_due hg hn R1 v6 H6
  clear P1 H6
  replace P2 := Lib.hid P2
  go_wp2_with fail
  refine Calls.mono P2.out ?_
  rintro e w7 ⟨rfl, H7⟩
  clear P2
  replace H7 := Lib.hid H7
  go_wp2_with fail
  go_ret
  exact ⟨rfl, H7.out⟩
set_option maxRecDepth 100000 in
theorem rnew_any (mode hold : Int) (w : World) : Calls Try.prog 38 #[.agg #[.int .i64 mode, .int .i64 hold]] w (fun e w' => ∃ o s, e = .returned (.pointer (some ⟨o, 0, none⟩)) ∧ St w none0 w' [rordP o s (new0 mode hold)]) := by
  go_enter Try.func38, Try.ntmps38
  go_wp2_with fail
  go_ret
  have H1 := (((St.zero w).skip (.cells #[.int .i64 mode, .int .i64 hold] 62)).row_nil (size := 3)).alloc [.slice none 0 0, .int .i64 0] 55
  simp only [World.size_alloc] at H1
  have H2 := ((refA_shut (List.Perm.refl []) (refS_shut (L := []) rfl H1)).row_nil (size := 2)).to_read 0 rfl
  have H3 := H2.alloc [.int .i64 mode, .int .i64 hold, .int .i64 0, .pointer (some ⟨w.heap.size + 1, 0, none⟩), .slice none 0 0, .int .i64 0, .int .i64 0, .int .i64 0, .int .i64 0, .int .i64 0] 80
  simp only [World.size_alloc] at H3
  exact ⟨_, _, rfl, (rordP_shut (x := new0 mode hold) (r := []) H3)⟩
end Go.Proofs.Ytiaefmmcakagpaa.Ord

/- The walk of Recv of the order's answer. -/
namespace Go.Proofs.Ytiaefmmcakagpaa.Ord
set_option linter.unusedSimpArgs false
set_option linter.unusedVariables false
open Go Go.RowKit Go.Shelf Go.Proofs.Ytiaefmmcakagpaa Go.Proofs.Ytiaefmmcakagpaa.Sift Go.Proofs.Ytiaefmmcakagpaa.Hold
open Go.Proofs.Ytiaefmmcakagpaa.DockWait (El enc val encs placed headV)
attribute [local irreducible] Calls

set_option maxRecDepth 100000 in
set_option maxHeartbeats 1000000 in
theorem rrecv_st {W w : World} {S0 : Nat → Prop} {r : List Asn} (o s : Nat) (x : Or) {n : Nat} {last : Int} (hg : Good x n last) (hn : n ≤ 1000) (H : St W S0 w (rordP o s x :: r)) :
    Calls Try.prog 80 #[.pointer (some ⟨o, 0, none⟩)] w (fun e w' => e = .returned (.tuple #[.agg #[.int .i64 (recvD x).1, .string (recvD x).2], .bool !x.rdy.isEmpty]) ∧ St W S0 w' (rordP o s (recvS x) :: r)) := by
  obtain ⟨v, H0⟩ := rordP_open H
  obtain ⟨z, c, f⟩ := H0.box 0 rfl
  unfold rordC at c
  have n1 : ¬ o = w.heap.size := by omega
  have n2 : ¬ w.heap.size = o := by omega
  have H1 : St W S0 _ (cellA w.heap.size [.int .i64 0, .string ⟨#[]⟩] :: cellA o (rordC s v x) :: readA 2 v x.rdy.length (dgs x.rdy) :: refA s x.c x.l :: r) := H0.alloc [.int .i64 0, .string ⟨#[]⟩] 45
  obtain ⟨z0, c0, f0⟩ := H1.box 0 rfl
  have hgb := hg.bds
  have hg0 := hg.g0
  obtain ⟨mode, hold, now, rel, came, ref, spl, giv, cc, l, rdy⟩ := x
  simp only at *
  obtain ⟨hx1, ga, gc, rfl, hx2, hx3, hx4⟩ := St.reads 2 H1 rfl
  cases rdy with
  | nil =>
    have H9 := H1.drop 0 rfl
    clear c0 f0 z0 hx4
    replace H1 := Lib.hid H1; replace H9 := Lib.hid H9
    go_enter Try.func80, Try.ntmps80
    go_wp2_with fail
    refine bodyPost_ret (v := .tuple #[.agg #[.int .i64 0, .string ⟨#[]⟩], .bool false]) (by simp [results, Try.results80, go_sem]; try rfl) rfl ⟨rfl, ?_⟩
    exact rordP_shut H9.out
  | cons d t =>
    obtain ⟨d1, d2⟩ := d
    rcases hx4 with ⟨_, h, _⟩ | ⟨g, off, rfl, hgl, hxx⟩
    · simp at h
    · have e0 := hxx 0 (.int .i64 d1) rfl
      have e1 := hxx 1 (.string d2) rfl
      simp only [Nat.add_zero] at e0
      simp only [List.length_cons] at H1 c hx2 H0
      have hgg : g < w.heap.size + 1 := by simpa using hgl
      clear hxx hx1 H
      unfold maxLen at hx3
      by_cases hcj : gc = 1
      · subst hcj
        have ht : t = [] := List.eq_nil_of_length_eq_zero (by omega)
        subst ht
        have H3 := H1
        have HN := read_next 1 H0 rfl rfl off 0 (.inl ⟨rfl, rfl⟩)
        go_enter Try.func80, Try.ntmps80
        clear H1
        replace H3 := Lib.hid H3; replace HN := Lib.hid HN
        go_wp2_with fail
        have H6 := (((((HN.out.front 1 rfl).set 0 rfl 4 (.slice (some ⟨g, off, none⟩) 0 0) (by simp [rordC])).set 0 rfl 8 (.int .i64 (giv + 1)) (by simp [rordC])).skip (.cells #[.int .i64 d1, .string d2] 45)).skip (.cells #[.int .i64 d1, .string d2] 45))
        refine bodyPost_ret (v := .tuple #[.agg #[.int .i64 d1, .string d2], .bool true]) (by simp [results, Try.results80, go_sem]; try rfl) rfl ⟨rfl, ?_⟩
        exact rordP_shut H6
      · have H3 := H1
        have HN := read_next 1 H0 rfl rfl (off + 2) (gc - 1) (.inr ⟨rfl, rfl⟩)
        go_enter Try.func80, Try.ntmps80
        clear H1
        replace H3 := Lib.hid H3; replace HN := Lib.hid HN
        go_wp2_with fail
        have H6 := (((((HN.out.front 1 rfl).set 0 rfl 4 (.slice (some ⟨g, off + 2, none⟩) t.length (gc - 1)) (by simp [rordC])).set 0 rfl 8 (.int .i64 (giv + 1)) (by simp [rordC])).skip (.cells #[.int .i64 d1, .string d2] 45)).skip (.cells #[.int .i64 d1, .string d2] 45))
        refine bodyPost_ret (v := .tuple #[.agg #[.int .i64 d1, .string d2], .bool true]) (by simp [results, Try.results80, go_sem]; try rfl) rfl ⟨rfl, ?_⟩
        exact rordP_shut H6
end Go.Proofs.Ytiaefmmcakagpaa.Ord

/- The walk of Take of the order's answer. -/
namespace Go.Proofs.Ytiaefmmcakagpaa.Ord
set_option linter.unusedSimpArgs false
set_option linter.unusedVariables false
open Go Go.RowKit Go.Shelf Go.Proofs.Ytiaefmmcakagpaa Go.Proofs.Ytiaefmmcakagpaa.Sift Go.Proofs.Ytiaefmmcakagpaa.Hold
open Go.Proofs.Ytiaefmmcakagpaa.DockWait (El enc val encs placed headV)
attribute [local irreducible] Calls

set_option maxRecDepth 100000 in
set_option maxHeartbeats 2000000 in
theorem rtake_st {W w : World} {S0 : Nat → Prop} {r : List Asn} (o s : Nat) (x : Or) (d : Dg) (own : Int) (l : List Int) (m : Nat) (hl : l.length = m) (hm : m ≤ maxLen) (a : Option Addr) (cap : Nat) {n : Nat} {last : Int} (hg : Good x n last) (hn : n ≤ 900)
    (hR : ∀ w', St W S0 w' r → Rd w' a (i64s l)) (H : St W S0 w (rordP o s x :: r)) :
    Calls Try.prog 78 #[.pointer (some ⟨o, 0, none⟩), .agg #[.int .i64 d.1, .string d.2], .int .i64 own, .slice a m cap] w (fun e w' => e = .returned (.int .i64 (putP x d (forF x.mode x.hold own l)).1.1) ∧ St W S0 w' (rordP o s (takeS x d (forF x.mode x.hold own l)) :: r)) := by
  obtain ⟨v0, H0⟩ := rordP_open H
  obtain ⟨z, c, f⟩ := H0.box 0 rfl
  have n1 : ¬ o = w.heap.size := by omega
  have n2 : ¬ w.heap.size = o := by omega
  obtain ⟨d1, d2⟩ := d
  have hgb := hg.bds
  have hn0 := hg.n0
  have hn1 := hg.n1
  have hfb := clamp60
  obtain ⟨fv, hfv⟩ : ∃ fv, fv = forF x.mode x.hold own l := ⟨_, rfl⟩
  have hfv0 : 0 ≤ fv ∧ fv ≤ 60 := by
    rw [hfv]; unfold forF
    split
    · omega
    · have := clamp60 x.hold
      have h3 : 0 ≤ gapF x.mode own l := by
        unfold gapF
        have := apart_bd l
        split
        · omega
        · split <;> omega
      omega
  have P1 := fun w' (h : St W S0 w' r) => rfor_any x.mode x.hold own l m hl hm a cap w' (hR w' h)
  rw [← hfv] at P1 ⊢
  have H1' := (H0.set 0 rfl 5 (.int .i64 (x.came + 1)) (by simp [rordC])).alloc [.int .i64 d1, .string d2] 45
  simp only [World.size_setCell] at H1'
  have H1 : St W S0 _ (cellA o (rordC s v0 { x with came := x.came + 1 }) :: cellA w.heap.size [.int .i64 d1, .string d2] :: readA 2 v0 x.rdy.length (dgs x.rdy) :: refA s x.c x.l :: r) :=
    H1'.arrN [1, 0] rfl
  clear H1'
  unfold rordC at c
  simp only at *
  have hlen := put_len hg (d1, d2) fv
  have hgt := hg.takeA (d1, d2) fv
  have HC : St W S0 _ [rordE o s x.mode x.hold x.now, cellA w.heap.size [.int .i64 d1, .string d2]] := (rordE_of H1).drops 2
  have hcl0 := fun (s' : Cls W S0 [rordE o s x.mode x.hold x.now, cellA w.heap.size [.int .i64 d1, .string d2]]) => (rordE_cell s'.st).1
  have hcl2 := fun (s' : Cls W S0 [rordE o s x.mode x.hold x.now, cellA w.heap.size [.int .i64 d1, .string d2]]) => (rordE_cell s'.st).2.1
  have hcl3 := fun (s' : Cls W S0 [rordE o s x.mode x.hold x.now, cellA w.heap.size [.int .i64 d1, .string d2]]) => (rordE_cell s'.st).2.2.1
  have hcl4 := fun (s' : Cls W S0 [rordE o s x.mode x.hold x.now, cellA w.heap.size [.int .i64 d1, .string d2]]) => (rordE_cell s'.st).2.2.2
  have hcb := fun (s' : Cls W S0 [rordE o s x.mode x.hold x.now, cellA w.heap.size [.int .i64 d1, .string d2]]) (i : Nat) => ((s'.st).box 1 rfl).cells i
  have P2 := fun w' (H' : St W S0 w' (cellA o (rordC s v0 { x with came := x.came + 1 }) :: cellA w.heap.size [.int .i64 d1, .string d2] :: readA 2 v0 x.rdy.length (dgs x.rdy) :: refA s x.c x.l :: r)) =>
    ex_at 3 H' rfl fun S h => rput_any s x.c x.l (d1, d2) (x.now + fv) hg.ok hg.len _ S h
  obtain ⟨R, hRR⟩ : ∃ R, R = putP x (d1, d2) fv := ⟨_, rfl⟩
  unfold takeS takeA at *
  change ∀ w', _ → _ at P2
  rw [show putM x.c x.l (d1, d2) (x.now + fv) = R from hRR.symm] at P2
  rw [← hRR] at hlen hgt ⊢
  obtain ⟨⟨what, ds⟩, c', l'⟩ := R
  simp only at P2 hlen hgt ⊢
  clear H hRR hfv hfb hR
  replace P1 := Lib.hid P1; replace P2 := Lib.hid P2; replace HC := Lib.hid HC; replace H1 := Lib.hid H1; replace hgt := Lib.hid hgt
  go_enter Try.func78, Try.ntmps78
  go_wp2_with fail
  haveI := St.ne HC.out
  refine wp_region_madeC HC.out [0, 1, 2, 3, 4, 5, 6, 7, 8, 9, 10, 11, 12, 13, 14] [true, true, true, true, true, true, true, true, true, true, true, true, true, true, true, false, false, false, false, false, false, false, false] 8 #[true, true, true, true, true, true, true, true, true, true, true, true, true, true, true, false, false, false, false, false, false, false, false] (by kernel_rfl) rfl (by kernel_rfl) (by kernel_rfl) rfl (by kernel_rfl) (by kernel_rfl) (by intro c a a' w e h; obtain ⟨t, d⟩ := a; obtain ⟨t', d'⟩ := a'; obtain rfl : d = d' := e; exact h) ?_
  simp only [pickB]
  repeat (go_big_quiet_step (fail))
  refine wpQuiet_nil ?_
  refine held_one (i := 15) (by kernel_rfl) fun K hK => ?_
  simp only [List.drop_succ_cons, List.drop_zero, List.take_succ_cons, List.take_zero]
  go_wp2_with fail
  refine Calls.mono (P1.out _ (((((H1.out.drew).drop 0 rfl).drop 0 rfl).drop 0 rfl).drop 0 rfl)) ?_
  rintro e w3 ⟨rfl, hb3⟩
  have H3 := H1.out.drew.thru hb3
  have HC3 := (rordE_of H3).drops 2
  have P3 := P2.out w3 H3
  clear P1 P2 H1 H3
  replace HC3 := Lib.hid HC3; replace P3 := Lib.hid P3
  go_wp2_with fail
  refine hK _ _ HC3.out ?_
  clear hK K
  haveI := St.ne HC3.out
  refine calmC HC3.out [16] [false, false, false, false, false, false, false, false, false, false, false, false, false, false, false, false, true, false, false, false, false, false, false] 6 7 #[true, true, true, true, true, true, true, true, true, true, true, true, true, true, true, true, false, false, false, false, false, false, false] #[true, true, true, true, true, true, true, true, true, true, true, true, true, true, true, true, true, false, false, false, false, false, false] rfl (by kernel_rfl) (by kernel_rfl) rfl (by kernel_rfl) (by kernel_rfl) (by intro c a a' w e h; obtain ⟨t, d⟩ := a; obtain ⟨t', d'⟩ := a'; obtain rfl : d = d' := e; exact h) ?_
  simp only [pickB]
  repeat (go_big_quiet_step (fail))
  refine wpQuiet_nil ?_
  refine held_one (i := 17) (by kernel_rfl) fun K hK => ?_
  simp only [List.drop_succ_cons, List.drop_zero, List.take_succ_cons, List.take_zero]
  go_wp2_with fail
  refine Calls.mono P3.out ?_
  rintro e w4 ⟨v4, rfl, H4⟩
  have HC4 := (rordE_of (H4.arrN [2, 3, 0, 1] rfl)).drops 2
  obtain ⟨a4, c4, rfl, _⟩ := St.slice (by omega) 0 H4 rfl
  clear P3
  replace HC4 := Lib.hid HC4; replace H4 := Lib.hid H4
  go_wp2_with fail
  refine hK _ _ HC4.out ?_
  clear hK K
  haveI := St.ne HC4.out
  refine calmC HC4.out [18, 19, 20, 21, 22] [false, false, false, false, false, false, false, false, false, false, false, false, false, false, false, false, false, false, true, true, true, true, true] 0 5 #[true, true, true, true, true, true, true, true, true, true, true, true, true, true, true, true, true, true, false, false, false, false, false] #[true, true, true, true, true, true, true, true, true, true, true, true, true, true, true, true, true, true, true, true, true, true, true] rfl (by kernel_rfl) (by kernel_rfl) rfl (by kernel_rfl) (by kernel_rfl) (by intro c a a' w e h; obtain ⟨t, d⟩ := a; obtain ⟨t', d'⟩ := a'; obtain rfl : d = d' := e; exact h) ?_
  simp only [pickB]
  repeat (go_big_quiet_step (fail))
  refine wpQuiet_nil ?_
  refine held_done (by kernel_rfl) ?_
  have H5 := (H4.out.arrN [2, 4, 1, 0, 3] rfl)
  obtain ⟨z5, c5, f5⟩ := H5.box 0 rfl
  unfold rordC at c5
  simp only at c5
  clear H4 HC HC3 HC4
  by_cases hw : 2 ≤ what
  · have t0 : decide (2 ≤ what) = true := decide_eq_true hw
    have H6 := ((H5.set 0 rfl 6 (.int .i64 (x.ref + 1)) (by simp [rordC])).drop 4 rfl)
    have hr0 := hg.r0
    replace hw := Lib.hid hw
    replace H5 := Lib.hid H5
    go_wp2_with fail
    have hbb : 0 ≤ x.spl ∧ x.spl ≤ 100000 ∧ 0 ≤ x.rel ∧ x.rel ≤ 100000 ∧ x.rdy.length ≤ 32 := ⟨hg.s0, by omega, by omega, by omega, hg.rlen⟩
    have PR := rrelease_st (r := r) o { x with came := x.came + 1, ref := x.ref + 1, c := c', l := l' } (.slice a4 ds.length c4) ds hlen.1 hbb s (rordP_shut H6)
    replace hgt := hgt.out
    simp only [if_pos hw.out] at hgt
    unfold addS at hgt
    simp only at hgt
    obtain ⟨y, hy⟩ : ∃ y, y = relM { x with came := x.came + 1, ref := x.ref + 1, c := c', l := l' } ds := ⟨_, rfl⟩
    have hyn : y.now = x.now := by rw [hy]; rfl
    rw [← hy] at PR hgt
    clear hbb
    replace hy := Lib.hid hy
    replace PR := Lib.hid PR; replace hgt := Lib.hid hgt; replace hyn := Lib.hid hyn
    go_wp2_with fail
    refine Calls.mono PR.out ?_
    rintro e w7 ⟨rfl, H7⟩
    have H8 := H7
    have HC8 : St W S0 w7 [rordE o s y.mode y.hold x.now] := by rw [← hyn.out]; have hq := rordE_P H8; exact hq
    have hcy0 := fun (s' : Cls W S0 [rordE o s y.mode y.hold x.now]) => (rordE_cell s'.st).2.2.2
    have hcy4 := fun (s' : Cls W S0 [rordE o s y.mode y.hold x.now]) => (rordE_cell s'.st).2.2.1
    have P9 := rdue_at hgt.out x.now H8.drew
    clear PR H7 H8 hcl0 hcl2 hcl3 hcl4 hcb
    replace HC8 := Lib.hid HC8; replace P9 := Lib.hid P9
    go_wp2_with fail
    haveI := St.ne HC8.out
    refine wp_region_madeC HC8.out [0, 1, 2, 3, 4, 5, 6, 7, 8] [true, true, true, true, true, true, true, true, true, false, false] 2 #[true, true, true, true, true, true, true, true, true, false, false] (by kernel_rfl) rfl (by kernel_rfl) (by kernel_rfl) rfl (by kernel_rfl) (by kernel_rfl) (by intro c a a' w e h; obtain ⟨t, d⟩ := a; obtain ⟨t', d'⟩ := a'; obtain rfl : d = d' := e; exact h) ?_
    simp only [pickB]
    repeat (go_big_quiet_step (fail))
    refine wpQuiet_nil ?_
    refine held_one (i := 9) (by kernel_rfl) fun K hK => ?_
    simp only [List.drop_succ_cons, List.drop_zero, List.take_succ_cons, List.take_zero]
    go_wp2_with fail
    refine Calls.mono P9.out ?_
    rintro e w8 ⟨v8, rfl, H8⟩
    have HC9 : St W S0 w8 [rordE o s y.mode y.hold x.now] := by rw [← hyn.out]; have hq := rordE_P H8; exact hq
    have P10 := rrelease_due hgt.out (by omega) x.now v8 H8
    clear P9 H8
    replace HC9 := Lib.hid HC9; replace P10 := Lib.hid P10
    go_wp2_with fail
    refine hK _ _ HC9.out ?_
    clear hK K
    refine held_one (i := 10) (by kernel_rfl) fun K hK => ?_
    simp only [List.drop_succ_cons, List.drop_zero, List.take_succ_cons, List.take_zero]
    go_wp2_with fail
    refine Calls.mono P10.out ?_
    rintro e w9 ⟨rfl, H9⟩
    have HC10 : St W S0 w9 [rordE o s y.mode y.hold x.now] := by rw [← hyn.out]; have hq := rordE_P H9; exact hq
    clear P10
    replace HC10 := Lib.hid HC10; replace H9 := Lib.hid H9
    go_wp2_with fail
    refine hK _ _ HC10.out ?_
    clear hK K
    refine held_done (by kernel_rfl) ?_
    go_wp2_with fail
    go_ret
    refine ⟨rfl, ?_⟩
    have H10 := H9.out
    rw [hy.out] at H10
    exact H10
  · have hr0 := hg.r0
    have H6 := (H5.drop 4 rfl)
    rcases (show what = 0 ∨ what = 1 by omega) with rfl | rfl
    · clear hw
      replace H5 := Lib.hid H5
      go_wp2_with fail
      have hbb : 0 ≤ x.spl ∧ x.spl ≤ 100000 ∧ 0 ≤ x.rel ∧ x.rel ≤ 100000 ∧ x.rdy.length ≤ 32 := ⟨hg.s0, by omega, by omega, by omega, hg.rlen⟩
      have PR := rrelease_st (r := r) o { x with came := x.came + 1, ref := x.ref, c := c', l := l' } (.slice a4 ds.length c4) ds hlen.1 hbb s (rordP_shut H6)
      replace hgt := hgt.out
      simp only [show ¬ (2 : Int) ≤ 0 by omega, if_false] at hgt
      unfold addS at hgt
      simp only at hgt
      obtain ⟨y, hy⟩ : ∃ y, y = relM { x with came := x.came + 1, ref := x.ref, c := c', l := l' } ds := ⟨_, rfl⟩
      have hyn : y.now = x.now := by rw [hy]; rfl
      rw [← hy] at PR hgt
      clear hbb
      replace hy := Lib.hid hy
      replace PR := Lib.hid PR; replace hgt := Lib.hid hgt; replace hyn := Lib.hid hyn
      go_wp2_with fail
      refine Calls.mono PR.out ?_
      rintro e w7 ⟨rfl, H7⟩
      have H8 := H7
      have HC8 : St W S0 w7 [rordE o s y.mode y.hold x.now] := by rw [← hyn.out]; have hq := rordE_P H8; exact hq
      have hcy0 := fun (s' : Cls W S0 [rordE o s y.mode y.hold x.now]) => (rordE_cell s'.st).2.2.2
      have hcy4 := fun (s' : Cls W S0 [rordE o s y.mode y.hold x.now]) => (rordE_cell s'.st).2.2.1
      have P9 := rdue_at hgt.out x.now H8.drew
      clear PR H7 H8 hcl0 hcl2 hcl3 hcl4 hcb
      replace HC8 := Lib.hid HC8; replace P9 := Lib.hid P9
      go_wp2_with fail
      haveI := St.ne HC8.out
      refine wp_region_madeC HC8.out [0, 1, 2, 3, 4, 5, 6, 7, 8] [true, true, true, true, true, true, true, true, true, false, false] 2 #[true, true, true, true, true, true, true, true, true, false, false] (by kernel_rfl) rfl (by kernel_rfl) (by kernel_rfl) rfl (by kernel_rfl) (by kernel_rfl) (by intro c a a' w e h; obtain ⟨t, d⟩ := a; obtain ⟨t', d'⟩ := a'; obtain rfl : d = d' := e; exact h) ?_
      simp only [pickB]
      repeat (go_big_quiet_step (fail))
      refine wpQuiet_nil ?_
      refine held_one (i := 9) (by kernel_rfl) fun K hK => ?_
      simp only [List.drop_succ_cons, List.drop_zero, List.take_succ_cons, List.take_zero]
      go_wp2_with fail
      refine Calls.mono P9.out ?_
      rintro e w8 ⟨v8, rfl, H8⟩
      have HC9 : St W S0 w8 [rordE o s y.mode y.hold x.now] := by rw [← hyn.out]; have hq := rordE_P H8; exact hq
      have P10 := rrelease_due hgt.out (by omega) x.now v8 H8
      clear P9 H8
      replace HC9 := Lib.hid HC9; replace P10 := Lib.hid P10
      go_wp2_with fail
      refine hK _ _ HC9.out ?_
      clear hK K
      refine held_one (i := 10) (by kernel_rfl) fun K hK => ?_
      simp only [List.drop_succ_cons, List.drop_zero, List.take_succ_cons, List.take_zero]
      go_wp2_with fail
      refine Calls.mono P10.out ?_
      rintro e w9 ⟨rfl, H9⟩
      have HC10 : St W S0 w9 [rordE o s y.mode y.hold x.now] := by rw [← hyn.out]; have hq := rordE_P H9; exact hq
      clear P10
      replace HC10 := Lib.hid HC10; replace H9 := Lib.hid H9
      go_wp2_with fail
      refine hK _ _ HC10.out ?_
      clear hK K
      refine held_done (by kernel_rfl) ?_
      go_wp2_with fail
      go_ret
      refine ⟨rfl, ?_⟩
      have H10 := H9.out
      rw [hy.out] at H10
      exact H10
    · clear hw
      replace H5 := Lib.hid H5
      go_wp2_with fail
      have hbb : 0 ≤ x.spl ∧ x.spl ≤ 100000 ∧ 0 ≤ x.rel ∧ x.rel ≤ 100000 ∧ x.rdy.length ≤ 32 := ⟨hg.s0, by omega, by omega, by omega, hg.rlen⟩
      have PR := rrelease_st (r := r) o { x with came := x.came + 1, ref := x.ref, c := c', l := l' } (.slice a4 ds.length c4) ds hlen.1 hbb s (rordP_shut H6)
      replace hgt := hgt.out
      simp only [show ¬ (2 : Int) ≤ 1 by omega, if_false] at hgt
      unfold addS at hgt
      simp only at hgt
      obtain ⟨y, hy⟩ : ∃ y, y = relM { x with came := x.came + 1, ref := x.ref, c := c', l := l' } ds := ⟨_, rfl⟩
      have hyn : y.now = x.now := by rw [hy]; rfl
      rw [← hy] at PR hgt
      clear hbb
      replace hy := Lib.hid hy
      replace PR := Lib.hid PR; replace hgt := Lib.hid hgt; replace hyn := Lib.hid hyn
      go_wp2_with fail
      refine Calls.mono PR.out ?_
      rintro e w7 ⟨rfl, H7⟩
      have H8 := H7
      have HC8 : St W S0 w7 [rordE o s y.mode y.hold x.now] := by rw [← hyn.out]; have hq := rordE_P H8; exact hq
      have hcy0 := fun (s' : Cls W S0 [rordE o s y.mode y.hold x.now]) => (rordE_cell s'.st).2.2.2
      have hcy4 := fun (s' : Cls W S0 [rordE o s y.mode y.hold x.now]) => (rordE_cell s'.st).2.2.1
      have P9 := rdue_at hgt.out x.now H8.drew
      clear PR H7 H8 hcl0 hcl2 hcl3 hcl4 hcb
      replace HC8 := Lib.hid HC8; replace P9 := Lib.hid P9
      go_wp2_with fail
      haveI := St.ne HC8.out
      refine wp_region_madeC HC8.out [0, 1, 2, 3, 4, 5, 6, 7, 8] [true, true, true, true, true, true, true, true, true, false, false] 2 #[true, true, true, true, true, true, true, true, true, false, false] (by kernel_rfl) rfl (by kernel_rfl) (by kernel_rfl) rfl (by kernel_rfl) (by kernel_rfl) (by intro c a a' w e h; obtain ⟨t, d⟩ := a; obtain ⟨t', d'⟩ := a'; obtain rfl : d = d' := e; exact h) ?_
      simp only [pickB]
      repeat (go_big_quiet_step (fail))
      refine wpQuiet_nil ?_
      refine held_one (i := 9) (by kernel_rfl) fun K hK => ?_
      simp only [List.drop_succ_cons, List.drop_zero, List.take_succ_cons, List.take_zero]
      go_wp2_with fail
      refine Calls.mono P9.out ?_
      rintro e w8 ⟨v8, rfl, H8⟩
      have HC9 : St W S0 w8 [rordE o s y.mode y.hold x.now] := by rw [← hyn.out]; have hq := rordE_P H8; exact hq
      have P10 := rrelease_due hgt.out (by omega) x.now v8 H8
      clear P9 H8
      replace HC9 := Lib.hid HC9; replace P10 := Lib.hid P10
      go_wp2_with fail
      refine hK _ _ HC9.out ?_
      clear hK K
      refine held_one (i := 10) (by kernel_rfl) fun K hK => ?_
      simp only [List.drop_succ_cons, List.drop_zero, List.take_succ_cons, List.take_zero]
      go_wp2_with fail
      refine Calls.mono P10.out ?_
      rintro e w9 ⟨rfl, H9⟩
      have HC10 : St W S0 w9 [rordE o s y.mode y.hold x.now] := by rw [← hyn.out]; have hq := rordE_P H9; exact hq
      clear P10
      replace HC10 := Lib.hid HC10; replace H9 := Lib.hid H9
      go_wp2_with fail
      refine hK _ _ HC10.out ?_
      clear hK K
      refine held_done (by kernel_rfl) ?_
      go_wp2_with fail
      go_ret
      refine ⟨rfl, ?_⟩
      have H10 := H9.out
      rw [hy.out] at H10
      exact H10
end Go.Proofs.Ytiaefmmcakagpaa.Ord

/- The steps of the statements on the order, as arguments; Great; works. -/
namespace Go.Proofs.Ytiaefmmcakagpaa.Ord
set_option linter.unusedSimpArgs false
set_option linter.unusedVariables false
open Go Go.RowKit Go.Shelf Go.Proofs.Ytiaefmmcakagpaa Go.Proofs.Ytiaefmmcakagpaa.Sift Go.Proofs.Ytiaefmmcakagpaa.Hold
open Go.Proofs.Ytiaefmmcakagpaa.DockWait (El enc val encs placed headV)
attribute [local irreducible] Calls

structure Oo where
  kind : Int
  own : Int
  num : Int
  dat : ByteArray
  trips : List Int
  a : Option Addr
  cap : Nat
  mode : Int
  hold : Int
def encO (x : Oo) : List Value := [.int .i64 x.kind, .int .i64 x.own, .int .i64 x.num, .string x.dat, .slice x.a x.trips.length x.cap, .int .i64 x.mode, .int .i64 x.hold]
theorem encO_len (x : Oo) : (encO x).length = 7 := rfl
def RdT (w : World) (x : Oo) : Prop := Rd w x.a (i64s x.trips)
def RdO (w : World) (a : Option Addr) (l : List Oo) : Prop := Rd w a (l.flatMap encO) ∧ ∀ x ∈ l, RdT w x
theorem RdO.below {w w' : World} {a : Option Addr} {l : List Oo} (h : RdO w a l) (hb : Below w.heap.size w w') : RdO w' a l := ⟨h.1.below hb, fun x hx => (h.2 x hx).below hb⟩
def good (x : Oo) : Prop := x.trips.length ≤ maxLen ∧ (x.a = none → x.trips.length = 0) ∧ x.dat.size ≤ maxLen ∧ isI64 x.num
theorem oos_at {w : World} {a : Option Addr} {l : List Oo} (h : RdO w a l) {j : Nat} (hj : j < l.length) :
    ∃ b off, a = some ⟨b, off, none⟩ ∧ b < w.heap.size ∧ ∀ i v, (encO l[j])[i]? = some v → w.cell? ⟨b, off + j * 7 + i, none⟩ = some v := by
  obtain ⟨b, off, e, hb, hc⟩ := Rd.rows encO_len (by omega) h.1 rfl (by omega)
  exact ⟨b, off, e, hb, fun i v hv => hc j hj i v hv⟩
theorem oo_in {w : World} {cs : List Value} (h : Fits w (.cons 1 (.int .i64) (.cons 1 (.int .i64) (.cons 2 (.cons 1 (.int .i64) (.cons 1 .str .nil)) (.cons 1 (.slice 1 (.int .i64)) (.cons 2 (.cons 1 (.int .i64) (.cons 1 (.int .i64) .nil)) .nil))))) cs) : ∃ x : Oo, encO x = cs ∧ good x ∧ RdT w x := by
  obtain ⟨_, _, rfl, f0, r0⟩ := fits_cons1 h
  obtain ⟨_, vs, rfl, f1, r1⟩ := fits_cons1 r0
  obtain ⟨kind, rfl, _⟩ := fits_int f0
  obtain ⟨own, rfl, _⟩ := fits_int f1
  obtain ⟨h2, f2, r2⟩ := r1
  obtain ⟨v2, us, e2, g0, s0⟩ := fits_cons1 f2
  obtain ⟨v3, us', rfl, g1, s1⟩ := fits_cons1 s0
  obtain ⟨num, rfl, wnum⟩ := fits_int g0
  obtain ⟨dat, rfl, wd⟩ := fits_str g1
  obtain rfl : _ = [] := s1
  obtain ⟨v4, vs2, e4, f3, r3⟩ := fits_cons1 r2
  obtain ⟨h5, f5, r5⟩ := r3
  obtain ⟨v5, us5, e5, g5, s5⟩ := fits_cons1 f5
  obtain ⟨v6, us6, rfl, g6, s6⟩ := fits_cons1 s5
  obtain ⟨mode, rfl, _⟩ := fits_int g5
  obtain ⟨hold, rfl, _⟩ := fits_int g6
  obtain rfl : _ = [] := s6
  have r5' : vs2.drop 2 = [] := r5
  obtain ⟨a, n, cap, rfl⟩ : ∃ a n cap, v4 = .slice a n cap := by
    have f2 := f3
    rcases f2 with h | ⟨x, l, c, h, _⟩
    · simp at h; exact ⟨_, _, _, h⟩
    · simp at h; exact ⟨_, _, _, h⟩
  obtain ⟨hn, hz, l, hl, _, hR⟩ := ints_in f3
  refine ⟨⟨kind, own, num, dat, l, a, cap, mode, hold⟩, ?_, ⟨by show l.length ≤ maxLen; omega, fun e => by show l.length = 0; have := hz e; omega, wd, bounds_i64 wnum⟩, hR⟩
  have ev : vs = [.int .i64 num, .string dat, .slice a n cap, .int .i64 mode, .int .i64 hold] := by
    rw [← List.take_append_drop 2 vs, e2, e4, ← List.take_append_drop 2 vs2, e5, r5']
    rfl
  rw [ev]
  show [Value.int .i64 kind, .int .i64 own, .int .i64 num, .string dat, .slice a l.length cap, .int .i64 mode, .int .i64 hold] = _
  rw [hl]
theorem oos_in {w : World} {a : Option Addr} {len cap : Nat} (h : Fits w (.slice 7 (.cons 1 (.int .i64) (.cons 1 (.int .i64) (.cons 2 (.cons 1 (.int .i64) (.cons 1 .str .nil)) (.cons 1 (.slice 1 (.int .i64)) (.cons 2 (.cons 1 (.int .i64) (.cons 1 (.int .i64) .nil)) .nil)))))) [.slice a len cap]) :
    len ≤ maxLen ∧ ∃ l : List Oo, l.length = len ∧ (∀ x ∈ l, good x) ∧ RdO w a l := by
  obtain ⟨h1, _, l, h3, h4, h5⟩ := rows_in (size := 7) encO (by omega) encO_len (fun cs hf _ => oo_in hf) h
  exact ⟨h1, l, h3, fun x hx => (h4 x hx).1, h5, fun x hx => (h4 x hx).2⟩
theorem timing_in {w : World} {cs : List Value} (h : Fits w (.cons 1 (.int .i64) (.cons 1 (.int .i64) .nil)) cs) : ∃ m n : Int, cs = [.int .i64 m, .int .i64 n] := by
  obtain ⟨_, _, rfl, f0, r0⟩ := fits_cons1 h
  obtain ⟨_, vs, rfl, f1, r1⟩ := fits_cons1 r0
  obtain ⟨m, rfl, _⟩ := fits_int f0
  obtain ⟨n, rfl, _⟩ := fits_int f1
  obtain rfl : vs = [] := r1
  exact ⟨m, n, rfl⟩
set_option maxRecDepth 100000 in
set_option maxHeartbeats 400000 in
theorem great_any (L : List Oo) (n : Nat) (hl : L.length = n) (hn : n ≤ maxLen) (hgood : ∀ o ∈ L, good o) (a : Option Addr) (cap : Nat) (w : World) (h : RdO w a L) :
    Calls Try.prog 36 #[.slice a n cap] w (fun e w' => ∃ b, e = .returned (.bool b) ∧ Below w.heap.size w w' ∧ (b = false → n ≤ 150 ∧ ∀ x ∈ L, x.trips.length ≤ 20)) := by
  unfold maxLen at hn
  replace h := Lib.hid h; replace hl := Lib.hid hl; replace hgood := Lib.hid hgood
  go_enter Try.func36, Try.ntmps36
  go_wp2_with fail
  go_loopg [3] n (fun g i wr => ∃ j : Nat, j ≤ n ∧ Hid (g = n - j) ∧ i = .int .i64 j ∧ j ≤ 150 ∧ Below w.heap.size w wr ∧ Hid (∀ i (hi : i < L.length), i < j → L[i].trips.length ≤ 20))
  case atStart => exact ⟨0, by omega, Lib.hid rfl, rfl, by omega, (by repeat (first | with_reducible exact Below.refl _ _ | (with_reducible refine Below.al ?_) | (with_reducible refine Below.drew ?_) | (with_reducible refine Below.set ?_ (by first | (simp; done) | omega | (simp; omega))) | (with_reducible refine Below.thru ?_ (by assumption)) | (with_reducible refine Below.chg ?_ (by assumption) (by first | (simp; done) | omega | (simp; omega))))), Lib.hid (by omega)⟩
  case round =>
    obtain ⟨j, hj, hg, rfl, h4, hbw, hno⟩ := hrel
    by_cases hlt : j < n
    · have hjl : j < L.length := by have := hl.out; omega
      obtain ⟨b, off, rfl, hb, hc⟩ := oos_at (h.out.below hbw) hjl
      have e3 := hc 3 _ rfl
      have e4 := hc 4 _ rfl
      have hs := hgood.out L[j] (List.getElem_mem hjl)
      obtain ⟨s1, _, s2, _⟩ := hs
      unfold maxLen at s1 s2
      have hnx : L[j].trips.length ≤ 20 → ∀ i (hi : i < L.length), i < j + 1 → L[i].trips.length ≤ 20 := fun h i hi h1 => by
        by_cases e : i = j
        · subst e; exact h
        · exact hno.out i hi (by omega)
      clear hc
      generalize L[j] = y at *
      replace hnx := Lib.hid hnx
      by_cases h60 : j = 150
      · have q : decide ((150 : Int) ≤ (j : Int)) = true := decide_eq_true (by omega)
        go_wp2_with fail
        go_ret
        exact ⟨true, rfl, (by repeat (first | with_reducible exact Below.refl _ _ | (with_reducible refine Below.al ?_) | (with_reducible refine Below.drew ?_) | (with_reducible refine Below.set ?_ (by first | (simp; done) | omega | (simp; omega))) | (with_reducible refine Below.thru ?_ (by assumption)) | (with_reducible refine Below.chg ?_ (by assumption) (by first | (simp; done) | omega | (simp; omega))))), by simp⟩
      · have q : decide ((150 : Int) ≤ (j : Int)) = false := decide_eq_false (by omega)
        by_cases hd : 1000 < y.dat.size
        · have q2 : decide ((1000 : Int) < (y.dat.size : Int)) = true := decide_eq_true (by omega)
          go_wp2_with fail
          go_ret
          exact ⟨true, rfl, (by repeat (first | with_reducible exact Below.refl _ _ | (with_reducible refine Below.al ?_) | (with_reducible refine Below.drew ?_) | (with_reducible refine Below.set ?_ (by first | (simp; done) | omega | (simp; omega))) | (with_reducible refine Below.thru ?_ (by assumption)) | (with_reducible refine Below.chg ?_ (by assumption) (by first | (simp; done) | omega | (simp; omega))))), by simp⟩
        · have q2 : decide ((1000 : Int) < (y.dat.size : Int)) = false := decide_eq_false (by omega)
          by_cases hv : 20 < y.trips.length
          · have q3 : decide ((20 : Int) < (y.trips.length : Int)) = true := decide_eq_true (by omega)
            go_wp2_with fail
            go_ret
            exact ⟨true, rfl, (by repeat (first | with_reducible exact Below.refl _ _ | (with_reducible refine Below.al ?_) | (with_reducible refine Below.drew ?_) | (with_reducible refine Below.set ?_ (by first | (simp; done) | omega | (simp; omega))) | (with_reducible refine Below.thru ?_ (by assumption)) | (with_reducible refine Below.chg ?_ (by assumption) (by first | (simp; done) | omega | (simp; omega))))), by simp⟩
          · have q3 : decide ((20 : Int) < (y.trips.length : Int)) = false := decide_eq_false (by omega)
            go_wp2_with fail
            go_roundg (n - (j + 1))
            case measure => have := hg.out; omega
            case rel => exact ⟨j + 1, by omega, Lib.hid rfl, by go_num, by omega, (by repeat (first | with_reducible exact Below.refl _ _ | (with_reducible refine Below.al ?_) | (with_reducible refine Below.drew ?_) | (with_reducible refine Below.set ?_ (by first | (simp; done) | omega | (simp; omega))) | (with_reducible refine Below.thru ?_ (by assumption)) | (with_reducible refine Below.chg ?_ (by assumption) (by first | (simp; done) | omega | (simp; omega))))), Lib.hid (hnx.out (by omega))⟩
    · go_wp2_with fail
      go_ret
      refine ⟨false, rfl, (by repeat (first | with_reducible exact Below.refl _ _ | (with_reducible refine Below.al ?_) | (with_reducible refine Below.drew ?_) | (with_reducible refine Below.set ?_ (by first | (simp; done) | omega | (simp; omega))) | (with_reducible refine Below.thru ?_ (by assumption)) | (with_reducible refine Below.chg ?_ (by assumption) (by first | (simp; done) | omega | (simp; omega))))), fun _ => ⟨by omega, fun x hx => ?_⟩⟩
      obtain ⟨i, hi, rfl⟩ := List.getElem_of_mem hx
      exact hno.out i hi (by have := hl.out; omega)
end Go.Proofs.Ytiaefmmcakagpaa.Ord

/- The walk of works of the statements on the order. -/
namespace Go.Proofs.Ytiaefmmcakagpaa.Ord
set_option linter.unusedSimpArgs false
set_option linter.unusedVariables false
open Go Go.RowKit Go.Shelf Go.Proofs.Ytiaefmmcakagpaa Go.Proofs.Ytiaefmmcakagpaa.Sift Go.Proofs.Ytiaefmmcakagpaa.Hold
open Go.Proofs.Ytiaefmmcakagpaa.DockWait (El enc val encs placed headV)
attribute [local irreducible] Calls

def wx1 : Or := ⟨0, 1, 0, 0, 1, 0, 0, 0, 0, [(2, ⟨#[98]⟩, 1)], []⟩
def wx2 : Or := ⟨0, 1, 1, 1, 1, 0, 0, 0, 2, [], [(2, ⟨#[98]⟩)]⟩
theorem wk1 : takeS (new0 0 1) (2, ⟨#[98]⟩) (forF 0 1 8 []) = wx1 ∧ (putP (new0 0 1) (2, ⟨#[98]⟩) (forF 0 1 8 [])).1.1 = 1 := by constructor <;> rfl
theorem wk2 : tickS wx1 = wx2 ∧ dueK (tickA wx1) (tickA wx1).now = 1 := by constructor <;> rfl
set_option maxRecDepth 100000 in
set_option maxHeartbeats 1000000 in
theorem works_law (w : World) : Calls Try.prog 31 #[] w (Ret w (.bool true)) := by
  have P0 := fun w => new_ok 0 1 rfl w
  replace P0 := Lib.hid P0
  go_enter Try.func31, Try.ntmps31
  go_wp2_with fail
  refine Calls.mono (P0.out _) ?_
  rintro e w1 ⟨o, rfl, H⟩
  obtain ⟨s, k, H1⟩ := order_P H
  have P1 := take_st o s k (new0 0 1) (2, ⟨#[98]⟩) 8 [] 0 rfl (Nat.zero_le _) none 0 (good_new 0 1) (by omega) (fun w' _ => Rd.nil _ _) H1
  rw [show takeS (new0 0 1) (2, ⟨#[98]⟩) (forF (new0 0 1).mode (new0 0 1).hold 8 []) = wx1 from wk1.1, show (putP (new0 0 1) (2, ⟨#[98]⟩) (forF (new0 0 1).mode (new0 0 1).hold 8 [])).1.1 = 1 from wk1.2] at P1
  have hg1 : Good wx1 1 0 := by have := (good_new 0 1).take (2, ⟨#[98]⟩) (forF 0 1 8 []); rwa [wk1.1] at this
  clear P0 H H1
  replace P1 := Lib.hid P1
  go_wp2_with fail
  refine Calls.mono P1.out ?_
  rintro e w2 ⟨rfl, H2⟩
  obtain ⟨S1, hS1⟩ := (St.drops (l := [orderA o wx1]) (orderP_order H2) 1).held 0 rfl
  have P2 := waits_any o wx1 w2 S1 hS1
  clear P1 hS1
  replace P2 := Lib.hid P2
  go_wp2_with fail
  refine Calls.mono (P2.out) ?_
  rintro e w3 ⟨rfl, hb3⟩
  have z3 := Below.size hb3; try simp only [World.size_alloc, World.size_setCell, World.size_drew] at z3
  have H3 := H2.thru hb3
  have P3 := tick_st o s k wx1 hg1 (by omega) H3
  rw [wk2.1, wk2.2] at P3
  have hg2 : Good wx2 1 0 := by have := hg1.tick; rwa [wk2.1] at this
  clear P2 H2 H3
  replace P3 := Lib.hid P3
  go_wp2_with fail
  refine Calls.mono P3.out ?_
  rintro e w4 ⟨rfl, H4⟩
  have P4 := recv_st o s k wx2 hg2 (by omega) H4
  clear P3 H4
  unfold wx2 recvD at P4
  simp only [List.isEmpty_cons, Bool.not_false] at P4
  replace P4 := Lib.hid P4
  go_wp2_with fail
  refine Calls.mono P4.out ?_
  rintro e w5 ⟨rfl, H5⟩
  clear P4
  replace H5 := Lib.hid H5
  go_wp2_with fail
  go_ret
  exact (H5.out.skip _).ret rfl
end Go.Proofs.Ytiaefmmcakagpaa.Ord

/- The walk of step of the statements on the order: one step of both. -/
namespace Go.Proofs.Ytiaefmmcakagpaa.Ord
set_option linter.unusedSimpArgs false
set_option linter.unusedVariables false
open Go Go.RowKit Go.Shelf Go.Proofs.Ytiaefmmcakagpaa Go.Proofs.Ytiaefmmcakagpaa.Sift Go.Proofs.Ytiaefmmcakagpaa.Hold
open Go.Proofs.Ytiaefmmcakagpaa.DockWait (El enc val encs placed headV)
attribute [local irreducible] Calls

def opF (x : Or) (p : Oo) : Int := forF x.mode x.hold p.own p.trips
/-- What a step comes to. -/
def stepS (x : Or) (p : Oo) : Or :=
  if p.kind = 0 ∨ p.kind = 1 ∨ p.kind = 2 ∨ p.kind = 3 then takeS x (p.num, p.dat) (opF x p)
  else if p.kind = 4 then tickS x
  else if p.kind = 5 then recvS x
  else if p.kind = 6 then setS x p.mode p.hold
  else if p.kind = 7 then flushS x
  else x
theorem Good.setS {x : Or} {k : Nat} {last : Int} (h : Good x k last) (m n : Int) : Good (setS x m n) k last := by
  unfold Ord.setS
  split
  · exact h.set m n
  · exact h
theorem Good.step {x : Or} {k : Nat} {last : Int} (h : Good x k last) (p : Oo) : Good (stepS x p) (k + 1) last := by
  unfold stepS
  split
  · exact h.take _ _
  · refine Good.more (k := k) ?_ (by omega)
    split
    · exact h.tick
    · split
      · exact h.recv
      · split
        · exact h.setS _ _
        · split
          · exact h.flush
          · exact h
theorem addS_keep (x : Or) (r : List Dg × Int × List El) : (addS x r).mode = x.mode ∧ (addS x r).hold = x.hold ∧ (addS x r).now = x.now := ⟨rfl, rfl, rfl⟩
set_option maxRecDepth 100000 in
set_option maxHeartbeats 4000000 in
theorem step_st {W' w : World} {S0 : Nat → Prop} {r : List Asn} (o s k q t : Nat) (x y : Or) (p : Oo) {n m : Nat} {last last' : Int} (hx : Good x n last) (hy : Good y m last') (hn : n ≤ 900) (hm : m ≤ 900) (hp : good p) (hp20 : p.trips.length ≤ 20)
    (hR : ∀ w', St W' S0 w' r → RdT w' p) (H : St W' S0 w (orderP o s k x :: rordP q t y :: r)) :
    Calls Try.prog 37 #[.pointer (some ⟨o, 0, none⟩), .pointer (some ⟨q, 0, none⟩), .agg #[.int .i64 p.kind, .int .i64 p.own, .int .i64 p.num, .string p.dat, .slice p.a p.trips.length p.cap, .int .i64 p.mode, .int .i64 p.hold]] w
      (fun e w' => ∃ b, e = .returned (.bool b) ∧ (x = y → b = true) ∧ St W' S0 w' (orderP o s k (stepS x p) :: rordP q t (stepS y p) :: r)) := by
  obtain ⟨i0, hi, hz, hz1, hz2⟩ := info_parts (show (Try.prog.info? 3).map (fun i => (i.zero, i.size, i.bytes)) = some (some (.int .i64 0), 1, 8) by kernel_rfl)
  obtain ⟨hp1, hp2, hp3, hp4⟩ := hp
  have H1 : St W' S0 _ (cellA w.heap.size [.int .i64 p.kind, .int .i64 p.own, .int .i64 p.num, .string p.dat, .slice p.a p.trips.length p.cap, .int .i64 p.mode, .int .i64 p.hold] :: orderP o s k x :: rordP q t y :: r) := H.alloc [.int .i64 p.kind, .int .i64 p.own, .int .i64 p.num, .string p.dat, .slice p.a p.trips.length p.cap, .int .i64 p.mode, .int .i64 p.hold] 70
  have HC : St W' S0 _ [cellA w.heap.size [.int .i64 p.kind, .int .i64 p.own, .int .i64 p.num, .string p.dat, .slice p.a p.trips.length p.cap, .int .i64 p.mode, .int .i64 p.hold]] := H1.drops 1
  have hcl : ∀ (s' : Cls W' S0 [cellA w.heap.size [.int .i64 p.kind, .int .i64 p.own, .int .i64 p.num, .string p.dat, .slice p.a p.trips.length p.cap, .int .i64 p.mode, .int .i64 p.hold]]) (i : Nat), s'.it.cell? ⟨w.heap.size, i, none⟩ = [Value.int .i64 p.kind, .int .i64 p.own, .int .i64 p.num, .string p.dat, .slice p.a p.trips.length p.cap, .int .i64 p.mode, .int .i64 p.hold][i]? := fun s' => (s'.st.box 0 rfl).cells
  unfold maxLen at hp1
  obtain ⟨kind, own, num, dat, trips, a, cap, mode, hold⟩ := p
  simp only at *
  obtain ⟨z1, k1, f1⟩ := H1.box 0 rfl
  clear H
  replace H1 := Lib.hid H1; replace HC := Lib.hid HC; replace hR := Lib.hid hR; replace hp2 := Lib.hid hp2
  by_cases hk : kind = 0 ∨ kind = 1 ∨ kind = 2 ∨ kind = 3
  · have hs : ∀ x, stepS x ⟨kind, own, num, dat, trips, a, cap, mode, hold⟩ = takeS x (num, dat) (forF x.mode x.hold own trips) := fun x => by unfold stepS; rw [if_pos hk]; rfl
    simp only [hs]
    clear hs
    rcases hk with rfl | rfl | rfl | rfl
    · go_enter Try.func37, Try.ntmps37
      go_wp2_with fail
      haveI := St.ne HC.out
      refine wp_region_madeC HC.out [0, 1, 2, 3, 4, 6, 7, 10, 11, 12, 13, 14, 15, 16] [true, true, true, true, true, false, true, true, false, false, true, true, true, true, true, true, true, false, false, false] 6 #[true, true, true, true, true, false, true, true, false, false, true, true, true, true, true, true, true, false, false, false] (by kernel_rfl) rfl (by kernel_rfl) (by kernel_rfl) rfl (by kernel_rfl) (by kernel_rfl) (by intro c a a' w e h; obtain ⟨t, d⟩ := a; obtain ⟨t', d'⟩ := a'; obtain rfl : d = d' := e; exact h) ?_
      simp only [pickB]
      repeat (go_big_quiet_step (fail))
      refine wpQuiet_nil ?_
      refine held_one (i := 5) (by kernel_rfl) fun K hK => ?_
      simp only [List.drop_succ_cons, List.drop_zero, List.take_succ_cons, List.take_zero]
      go_wp2_with fail
      have E1 := H1.out.drew.alloc [] 3
      try simp only [World.size_alloc, World.size_drew] at E1
      have E2 := E1.row_empty (size := 1) 0 rfl
      have HC2 := (E2.front 1 rfl).drops 1
      refine hK _ _ HC2 ?_
      clear hK K
      have hr2 := hR.out _ ((((E2.drop 0 rfl).drop 0 rfl).drop 0 rfl).drop 0 rfl)
      unfold RdT at hr2
      simp only at hr2
      clear HC H1
      replace HC2 := Lib.hid HC2
      refine held_one (i := 8) (by kernel_rfl) fun K hK => ?_
      simp only [List.drop_succ_cons, List.drop_zero, List.take_succ_cons, List.take_zero]
      go_wp2_with (at_builtin; (refine wpList_appRd rfl (.tmp 24) (.tmp 26) _ rfl 3 i0 _ 1 8 Try.underlying34 hi hz hz1 hz2 rfl (by omega) 0 _ 0 [] rfl E2 rfl a trips.length cap (i64s trips) rfl (by rw [i64s_len]; omega) hr2 hp2.out (i64s_one trips) (by omega) (by omega) ?_; intro wv5 w5 HA; (try simp only [Nat.zero_add, List.nil_append] at HA)))
      have HB : St W' S0 w5 (orderP o s k x :: rowA 1 wv5 trips.length (i64s trips) :: cellA w.heap.size [.int .i64 0, .int .i64 own, .int .i64 num, .string dat, .slice a trips.length cap, .int .i64 mode, .int .i64 hold] :: rordP q t y :: r) := HA.arrN [2, 0, 1, 3] rfl
      have HC5 : St W' S0 w5 [cellA w.heap.size [.int .i64 0, .int .i64 own, .int .i64 num, .string dat, .slice a trips.length cap, .int .i64 mode, .int .i64 hold]] := (HB.arrN [2, 0, 1, 3] rfl).drops 1
      refine hK _ _ HC5 ?_
      clear hK K HA E1 E2 HC2 hr2
      obtain ⟨a5, c5, rfl, _⟩ := St.slice (by omega) 1 HB rfl
      have P := take_st o s k x (num, dat) own trips trips.length rfl (by unfold maxLen; omega) a5 c5 hx hn (fun w' h => St.rd (by omega) 0 h rfl) HB
      clear HB
      replace HC5 := Lib.hid HC5; replace P := Lib.hid P
      refine held_one (i := 9) (by kernel_rfl) fun K hK => ?_
      simp only [List.drop_succ_cons, List.drop_zero, List.take_succ_cons, List.take_zero]
      go_wp2_with fail
      refine Calls.mono P.out ?_
      rintro e w6 ⟨rfl, H6⟩
      have H7 : St W' S0 w6 (rordP q t y :: orderP o s k (takeS x (num, dat) (forF x.mode x.hold own trips)) :: rowA 1 (.slice a5 trips.length c5) trips.length (i64s trips) :: cellA w.heap.size [.int .i64 0, .int .i64 own, .int .i64 num, .string dat, .slice a trips.length cap, .int .i64 mode, .int .i64 hold] :: r) := H6.arrN [3, 0, 1, 2] rfl
      have HC6 : St W' S0 w6 [cellA w.heap.size [.int .i64 0, .int .i64 own, .int .i64 num, .string dat, .slice a trips.length cap, .int .i64 mode, .int .i64 hold]] := (H7.arrN [3, 0, 1, 2] rfl).drops 1
      have P2 := rtake_st q t y (num, dat) own trips trips.length rfl (by unfold maxLen; omega) a cap hy hm (fun w' h => (hR.out w' (((h.drop 0 rfl).drop 0 rfl).drop 0 rfl) : Rd w' a (i64s trips))) H7
      clear P H6 H7
      replace HC6 := Lib.hid HC6; replace P2 := Lib.hid P2
      go_wp2_with fail
      refine hK _ _ HC6.out ?_
      clear hK K
      refine held_one (i := 17) (by kernel_rfl) fun K hK => ?_
      simp only [List.drop_succ_cons, List.drop_zero, List.take_succ_cons, List.take_zero]
      go_wp2_with fail
      refine Calls.mono P2.out ?_
      rintro e w7 ⟨rfl, H8⟩
      have HC7 : St W' S0 w7 [cellA w.heap.size [.int .i64 0, .int .i64 own, .int .i64 num, .string dat, .slice a trips.length cap, .int .i64 mode, .int .i64 hold]] := (H8.arrN [3, 0, 1, 2] rfl).drops 1
      clear P2
      replace HC7 := Lib.hid HC7; replace H8 := Lib.hid H8
      go_wp2_with fail
      refine hK _ _ HC7.out ?_
      clear hK K
      haveI := St.ne HC7.out
      refine calmC HC7.out [18, 19] [false, false, false, false, false, false, false, false, false, false, false, false, false, false, false, false, false, false, true, true] 0 2 #[true, true, true, true, true, true, true, true, true, true, true, true, true, true, true, true, true, true, false, false] #[true, true, true, true, true, true, true, true, true, true, true, true, true, true, true, true, true, true, true, true] rfl (by kernel_rfl) (by kernel_rfl) rfl (by kernel_rfl) (by kernel_rfl) (by intro c a a' w e h; obtain ⟨t, d⟩ := a; obtain ⟨t', d'⟩ := a'; obtain rfl : d = d' := e; exact h) ?_
      simp only [pickB]
      repeat (go_big_quiet_step (fail))
      refine wpQuiet_nil ?_
      refine held_done (by kernel_rfl) ?_
      go_wp2_with fail
      go_ret
      refine ⟨_, rfl, by rintro rfl; simp, ?_⟩
      exact ((H8.out.arrN [1, 0, 2, 3] rfl).drop 2 rfl).drop 2 rfl
    · go_enter Try.func37, Try.ntmps37
      go_wp2_with fail
      haveI := St.ne HC.out
      refine wp_region_madeC HC.out [0, 1, 2, 3, 4, 6, 7, 10, 11, 12, 13, 14, 15, 16] [true, true, true, true, true, false, true, true, false, false, true, true, true, true, true, true, true, false, false, false] 6 #[true, true, true, true, true, false, true, true, false, false, true, true, true, true, true, true, true, false, false, false] (by kernel_rfl) rfl (by kernel_rfl) (by kernel_rfl) rfl (by kernel_rfl) (by kernel_rfl) (by intro c a a' w e h; obtain ⟨t, d⟩ := a; obtain ⟨t', d'⟩ := a'; obtain rfl : d = d' := e; exact h) ?_
      simp only [pickB]
      repeat (go_big_quiet_step (fail))
      refine wpQuiet_nil ?_
      refine held_one (i := 5) (by kernel_rfl) fun K hK => ?_
      simp only [List.drop_succ_cons, List.drop_zero, List.take_succ_cons, List.take_zero]
      go_wp2_with fail
      have E1 := H1.out.drew.alloc [] 3
      try simp only [World.size_alloc, World.size_drew] at E1
      have E2 := E1.row_empty (size := 1) 0 rfl
      have HC2 := (E2.front 1 rfl).drops 1
      refine hK _ _ HC2 ?_
      clear hK K
      have hr2 := hR.out _ ((((E2.drop 0 rfl).drop 0 rfl).drop 0 rfl).drop 0 rfl)
      unfold RdT at hr2
      simp only at hr2
      clear HC H1
      replace HC2 := Lib.hid HC2
      refine held_one (i := 8) (by kernel_rfl) fun K hK => ?_
      simp only [List.drop_succ_cons, List.drop_zero, List.take_succ_cons, List.take_zero]
      go_wp2_with (at_builtin; (refine wpList_appRd rfl (.tmp 24) (.tmp 26) _ rfl 3 i0 _ 1 8 Try.underlying34 hi hz hz1 hz2 rfl (by omega) 0 _ 0 [] rfl E2 rfl a trips.length cap (i64s trips) rfl (by rw [i64s_len]; omega) hr2 hp2.out (i64s_one trips) (by omega) (by omega) ?_; intro wv5 w5 HA; (try simp only [Nat.zero_add, List.nil_append] at HA)))
      have HB : St W' S0 w5 (orderP o s k x :: rowA 1 wv5 trips.length (i64s trips) :: cellA w.heap.size [.int .i64 1, .int .i64 own, .int .i64 num, .string dat, .slice a trips.length cap, .int .i64 mode, .int .i64 hold] :: rordP q t y :: r) := HA.arrN [2, 0, 1, 3] rfl
      have HC5 : St W' S0 w5 [cellA w.heap.size [.int .i64 1, .int .i64 own, .int .i64 num, .string dat, .slice a trips.length cap, .int .i64 mode, .int .i64 hold]] := (HB.arrN [2, 0, 1, 3] rfl).drops 1
      refine hK _ _ HC5 ?_
      clear hK K HA E1 E2 HC2 hr2
      obtain ⟨a5, c5, rfl, _⟩ := St.slice (by omega) 1 HB rfl
      have P := take_st o s k x (num, dat) own trips trips.length rfl (by unfold maxLen; omega) a5 c5 hx hn (fun w' h => St.rd (by omega) 0 h rfl) HB
      clear HB
      replace HC5 := Lib.hid HC5; replace P := Lib.hid P
      refine held_one (i := 9) (by kernel_rfl) fun K hK => ?_
      simp only [List.drop_succ_cons, List.drop_zero, List.take_succ_cons, List.take_zero]
      go_wp2_with fail
      refine Calls.mono P.out ?_
      rintro e w6 ⟨rfl, H6⟩
      have H7 : St W' S0 w6 (rordP q t y :: orderP o s k (takeS x (num, dat) (forF x.mode x.hold own trips)) :: rowA 1 (.slice a5 trips.length c5) trips.length (i64s trips) :: cellA w.heap.size [.int .i64 1, .int .i64 own, .int .i64 num, .string dat, .slice a trips.length cap, .int .i64 mode, .int .i64 hold] :: r) := H6.arrN [3, 0, 1, 2] rfl
      have HC6 : St W' S0 w6 [cellA w.heap.size [.int .i64 1, .int .i64 own, .int .i64 num, .string dat, .slice a trips.length cap, .int .i64 mode, .int .i64 hold]] := (H7.arrN [3, 0, 1, 2] rfl).drops 1
      have P2 := rtake_st q t y (num, dat) own trips trips.length rfl (by unfold maxLen; omega) a cap hy hm (fun w' h => (hR.out w' (((h.drop 0 rfl).drop 0 rfl).drop 0 rfl) : Rd w' a (i64s trips))) H7
      clear P H6 H7
      replace HC6 := Lib.hid HC6; replace P2 := Lib.hid P2
      go_wp2_with fail
      refine hK _ _ HC6.out ?_
      clear hK K
      refine held_one (i := 17) (by kernel_rfl) fun K hK => ?_
      simp only [List.drop_succ_cons, List.drop_zero, List.take_succ_cons, List.take_zero]
      go_wp2_with fail
      refine Calls.mono P2.out ?_
      rintro e w7 ⟨rfl, H8⟩
      have HC7 : St W' S0 w7 [cellA w.heap.size [.int .i64 1, .int .i64 own, .int .i64 num, .string dat, .slice a trips.length cap, .int .i64 mode, .int .i64 hold]] := (H8.arrN [3, 0, 1, 2] rfl).drops 1
      clear P2
      replace HC7 := Lib.hid HC7; replace H8 := Lib.hid H8
      go_wp2_with fail
      refine hK _ _ HC7.out ?_
      clear hK K
      haveI := St.ne HC7.out
      refine calmC HC7.out [18, 19] [false, false, false, false, false, false, false, false, false, false, false, false, false, false, false, false, false, false, true, true] 0 2 #[true, true, true, true, true, true, true, true, true, true, true, true, true, true, true, true, true, true, false, false] #[true, true, true, true, true, true, true, true, true, true, true, true, true, true, true, true, true, true, true, true] rfl (by kernel_rfl) (by kernel_rfl) rfl (by kernel_rfl) (by kernel_rfl) (by intro c a a' w e h; obtain ⟨t, d⟩ := a; obtain ⟨t', d'⟩ := a'; obtain rfl : d = d' := e; exact h) ?_
      simp only [pickB]
      repeat (go_big_quiet_step (fail))
      refine wpQuiet_nil ?_
      refine held_done (by kernel_rfl) ?_
      go_wp2_with fail
      go_ret
      refine ⟨_, rfl, by rintro rfl; simp, ?_⟩
      exact ((H8.out.arrN [1, 0, 2, 3] rfl).drop 2 rfl).drop 2 rfl
    · go_enter Try.func37, Try.ntmps37
      go_wp2_with fail
      haveI := St.ne HC.out
      refine wp_region_madeC HC.out [0, 1, 2, 3, 4, 6, 7, 10, 11, 12, 13, 14, 15, 16] [true, true, true, true, true, false, true, true, false, false, true, true, true, true, true, true, true, false, false, false] 6 #[true, true, true, true, true, false, true, true, false, false, true, true, true, true, true, true, true, false, false, false] (by kernel_rfl) rfl (by kernel_rfl) (by kernel_rfl) rfl (by kernel_rfl) (by kernel_rfl) (by intro c a a' w e h; obtain ⟨t, d⟩ := a; obtain ⟨t', d'⟩ := a'; obtain rfl : d = d' := e; exact h) ?_
      simp only [pickB]
      repeat (go_big_quiet_step (fail))
      refine wpQuiet_nil ?_
      refine held_one (i := 5) (by kernel_rfl) fun K hK => ?_
      simp only [List.drop_succ_cons, List.drop_zero, List.take_succ_cons, List.take_zero]
      go_wp2_with fail
      have E1 := H1.out.drew.alloc [] 3
      try simp only [World.size_alloc, World.size_drew] at E1
      have E2 := E1.row_empty (size := 1) 0 rfl
      have HC2 := (E2.front 1 rfl).drops 1
      refine hK _ _ HC2 ?_
      clear hK K
      have hr2 := hR.out _ ((((E2.drop 0 rfl).drop 0 rfl).drop 0 rfl).drop 0 rfl)
      unfold RdT at hr2
      simp only at hr2
      clear HC H1
      replace HC2 := Lib.hid HC2
      refine held_one (i := 8) (by kernel_rfl) fun K hK => ?_
      simp only [List.drop_succ_cons, List.drop_zero, List.take_succ_cons, List.take_zero]
      go_wp2_with (at_builtin; (refine wpList_appRd rfl (.tmp 24) (.tmp 26) _ rfl 3 i0 _ 1 8 Try.underlying34 hi hz hz1 hz2 rfl (by omega) 0 _ 0 [] rfl E2 rfl a trips.length cap (i64s trips) rfl (by rw [i64s_len]; omega) hr2 hp2.out (i64s_one trips) (by omega) (by omega) ?_; intro wv5 w5 HA; (try simp only [Nat.zero_add, List.nil_append] at HA)))
      have HB : St W' S0 w5 (orderP o s k x :: rowA 1 wv5 trips.length (i64s trips) :: cellA w.heap.size [.int .i64 2, .int .i64 own, .int .i64 num, .string dat, .slice a trips.length cap, .int .i64 mode, .int .i64 hold] :: rordP q t y :: r) := HA.arrN [2, 0, 1, 3] rfl
      have HC5 : St W' S0 w5 [cellA w.heap.size [.int .i64 2, .int .i64 own, .int .i64 num, .string dat, .slice a trips.length cap, .int .i64 mode, .int .i64 hold]] := (HB.arrN [2, 0, 1, 3] rfl).drops 1
      refine hK _ _ HC5 ?_
      clear hK K HA E1 E2 HC2 hr2
      obtain ⟨a5, c5, rfl, _⟩ := St.slice (by omega) 1 HB rfl
      have P := take_st o s k x (num, dat) own trips trips.length rfl (by unfold maxLen; omega) a5 c5 hx hn (fun w' h => St.rd (by omega) 0 h rfl) HB
      clear HB
      replace HC5 := Lib.hid HC5; replace P := Lib.hid P
      refine held_one (i := 9) (by kernel_rfl) fun K hK => ?_
      simp only [List.drop_succ_cons, List.drop_zero, List.take_succ_cons, List.take_zero]
      go_wp2_with fail
      refine Calls.mono P.out ?_
      rintro e w6 ⟨rfl, H6⟩
      have H7 : St W' S0 w6 (rordP q t y :: orderP o s k (takeS x (num, dat) (forF x.mode x.hold own trips)) :: rowA 1 (.slice a5 trips.length c5) trips.length (i64s trips) :: cellA w.heap.size [.int .i64 2, .int .i64 own, .int .i64 num, .string dat, .slice a trips.length cap, .int .i64 mode, .int .i64 hold] :: r) := H6.arrN [3, 0, 1, 2] rfl
      have HC6 : St W' S0 w6 [cellA w.heap.size [.int .i64 2, .int .i64 own, .int .i64 num, .string dat, .slice a trips.length cap, .int .i64 mode, .int .i64 hold]] := (H7.arrN [3, 0, 1, 2] rfl).drops 1
      have P2 := rtake_st q t y (num, dat) own trips trips.length rfl (by unfold maxLen; omega) a cap hy hm (fun w' h => (hR.out w' (((h.drop 0 rfl).drop 0 rfl).drop 0 rfl) : Rd w' a (i64s trips))) H7
      clear P H6 H7
      replace HC6 := Lib.hid HC6; replace P2 := Lib.hid P2
      go_wp2_with fail
      refine hK _ _ HC6.out ?_
      clear hK K
      refine held_one (i := 17) (by kernel_rfl) fun K hK => ?_
      simp only [List.drop_succ_cons, List.drop_zero, List.take_succ_cons, List.take_zero]
      go_wp2_with fail
      refine Calls.mono P2.out ?_
      rintro e w7 ⟨rfl, H8⟩
      have HC7 : St W' S0 w7 [cellA w.heap.size [.int .i64 2, .int .i64 own, .int .i64 num, .string dat, .slice a trips.length cap, .int .i64 mode, .int .i64 hold]] := (H8.arrN [3, 0, 1, 2] rfl).drops 1
      clear P2
      replace HC7 := Lib.hid HC7; replace H8 := Lib.hid H8
      go_wp2_with fail
      refine hK _ _ HC7.out ?_
      clear hK K
      haveI := St.ne HC7.out
      refine calmC HC7.out [18, 19] [false, false, false, false, false, false, false, false, false, false, false, false, false, false, false, false, false, false, true, true] 0 2 #[true, true, true, true, true, true, true, true, true, true, true, true, true, true, true, true, true, true, false, false] #[true, true, true, true, true, true, true, true, true, true, true, true, true, true, true, true, true, true, true, true] rfl (by kernel_rfl) (by kernel_rfl) rfl (by kernel_rfl) (by kernel_rfl) (by intro c a a' w e h; obtain ⟨t, d⟩ := a; obtain ⟨t', d'⟩ := a'; obtain rfl : d = d' := e; exact h) ?_
      simp only [pickB]
      repeat (go_big_quiet_step (fail))
      refine wpQuiet_nil ?_
      refine held_done (by kernel_rfl) ?_
      go_wp2_with fail
      go_ret
      refine ⟨_, rfl, by rintro rfl; simp, ?_⟩
      exact ((H8.out.arrN [1, 0, 2, 3] rfl).drop 2 rfl).drop 2 rfl
    · go_enter Try.func37, Try.ntmps37
      go_wp2_with fail
      haveI := St.ne HC.out
      refine wp_region_madeC HC.out [0, 1, 2, 3, 4, 6, 7, 10, 11, 12, 13, 14, 15, 16] [true, true, true, true, true, false, true, true, false, false, true, true, true, true, true, true, true, false, false, false] 6 #[true, true, true, true, true, false, true, true, false, false, true, true, true, true, true, true, true, false, false, false] (by kernel_rfl) rfl (by kernel_rfl) (by kernel_rfl) rfl (by kernel_rfl) (by kernel_rfl) (by intro c a a' w e h; obtain ⟨t, d⟩ := a; obtain ⟨t', d'⟩ := a'; obtain rfl : d = d' := e; exact h) ?_
      simp only [pickB]
      repeat (go_big_quiet_step (fail))
      refine wpQuiet_nil ?_
      refine held_one (i := 5) (by kernel_rfl) fun K hK => ?_
      simp only [List.drop_succ_cons, List.drop_zero, List.take_succ_cons, List.take_zero]
      go_wp2_with fail
      have E1 := H1.out.drew.alloc [] 3
      try simp only [World.size_alloc, World.size_drew] at E1
      have E2 := E1.row_empty (size := 1) 0 rfl
      have HC2 := (E2.front 1 rfl).drops 1
      refine hK _ _ HC2 ?_
      clear hK K
      have hr2 := hR.out _ ((((E2.drop 0 rfl).drop 0 rfl).drop 0 rfl).drop 0 rfl)
      unfold RdT at hr2
      simp only at hr2
      clear HC H1
      replace HC2 := Lib.hid HC2
      refine held_one (i := 8) (by kernel_rfl) fun K hK => ?_
      simp only [List.drop_succ_cons, List.drop_zero, List.take_succ_cons, List.take_zero]
      go_wp2_with (at_builtin; (refine wpList_appRd rfl (.tmp 24) (.tmp 26) _ rfl 3 i0 _ 1 8 Try.underlying34 hi hz hz1 hz2 rfl (by omega) 0 _ 0 [] rfl E2 rfl a trips.length cap (i64s trips) rfl (by rw [i64s_len]; omega) hr2 hp2.out (i64s_one trips) (by omega) (by omega) ?_; intro wv5 w5 HA; (try simp only [Nat.zero_add, List.nil_append] at HA)))
      have HB : St W' S0 w5 (orderP o s k x :: rowA 1 wv5 trips.length (i64s trips) :: cellA w.heap.size [.int .i64 3, .int .i64 own, .int .i64 num, .string dat, .slice a trips.length cap, .int .i64 mode, .int .i64 hold] :: rordP q t y :: r) := HA.arrN [2, 0, 1, 3] rfl
      have HC5 : St W' S0 w5 [cellA w.heap.size [.int .i64 3, .int .i64 own, .int .i64 num, .string dat, .slice a trips.length cap, .int .i64 mode, .int .i64 hold]] := (HB.arrN [2, 0, 1, 3] rfl).drops 1
      refine hK _ _ HC5 ?_
      clear hK K HA E1 E2 HC2 hr2
      obtain ⟨a5, c5, rfl, _⟩ := St.slice (by omega) 1 HB rfl
      have P := take_st o s k x (num, dat) own trips trips.length rfl (by unfold maxLen; omega) a5 c5 hx hn (fun w' h => St.rd (by omega) 0 h rfl) HB
      clear HB
      replace HC5 := Lib.hid HC5; replace P := Lib.hid P
      refine held_one (i := 9) (by kernel_rfl) fun K hK => ?_
      simp only [List.drop_succ_cons, List.drop_zero, List.take_succ_cons, List.take_zero]
      go_wp2_with fail
      refine Calls.mono P.out ?_
      rintro e w6 ⟨rfl, H6⟩
      have H7 : St W' S0 w6 (rordP q t y :: orderP o s k (takeS x (num, dat) (forF x.mode x.hold own trips)) :: rowA 1 (.slice a5 trips.length c5) trips.length (i64s trips) :: cellA w.heap.size [.int .i64 3, .int .i64 own, .int .i64 num, .string dat, .slice a trips.length cap, .int .i64 mode, .int .i64 hold] :: r) := H6.arrN [3, 0, 1, 2] rfl
      have HC6 : St W' S0 w6 [cellA w.heap.size [.int .i64 3, .int .i64 own, .int .i64 num, .string dat, .slice a trips.length cap, .int .i64 mode, .int .i64 hold]] := (H7.arrN [3, 0, 1, 2] rfl).drops 1
      have P2 := rtake_st q t y (num, dat) own trips trips.length rfl (by unfold maxLen; omega) a cap hy hm (fun w' h => (hR.out w' (((h.drop 0 rfl).drop 0 rfl).drop 0 rfl) : Rd w' a (i64s trips))) H7
      clear P H6 H7
      replace HC6 := Lib.hid HC6; replace P2 := Lib.hid P2
      go_wp2_with fail
      refine hK _ _ HC6.out ?_
      clear hK K
      refine held_one (i := 17) (by kernel_rfl) fun K hK => ?_
      simp only [List.drop_succ_cons, List.drop_zero, List.take_succ_cons, List.take_zero]
      go_wp2_with fail
      refine Calls.mono P2.out ?_
      rintro e w7 ⟨rfl, H8⟩
      have HC7 : St W' S0 w7 [cellA w.heap.size [.int .i64 3, .int .i64 own, .int .i64 num, .string dat, .slice a trips.length cap, .int .i64 mode, .int .i64 hold]] := (H8.arrN [3, 0, 1, 2] rfl).drops 1
      clear P2
      replace HC7 := Lib.hid HC7; replace H8 := Lib.hid H8
      go_wp2_with fail
      refine hK _ _ HC7.out ?_
      clear hK K
      haveI := St.ne HC7.out
      refine calmC HC7.out [18, 19] [false, false, false, false, false, false, false, false, false, false, false, false, false, false, false, false, false, false, true, true] 0 2 #[true, true, true, true, true, true, true, true, true, true, true, true, true, true, true, true, true, true, false, false] #[true, true, true, true, true, true, true, true, true, true, true, true, true, true, true, true, true, true, true, true] rfl (by kernel_rfl) (by kernel_rfl) rfl (by kernel_rfl) (by kernel_rfl) (by intro c a a' w e h; obtain ⟨t, d⟩ := a; obtain ⟨t', d'⟩ := a'; obtain rfl : d = d' := e; exact h) ?_
      simp only [pickB]
      repeat (go_big_quiet_step (fail))
      refine wpQuiet_nil ?_
      refine held_done (by kernel_rfl) ?_
      go_wp2_with fail
      go_ret
      refine ⟨_, rfl, by rintro rfl; simp, ?_⟩
      exact ((H8.out.arrN [1, 0, 2, 3] rfl).drop 2 rfl).drop 2 rfl
  · have hko : ¬ kind = 0 ∧ ¬ kind = 1 ∧ ¬ kind = 2 ∧ ¬ kind = 3 := by omega
    by_cases h4 : kind = 4
    · have hs : ∀ x, stepS x ⟨kind, own, num, dat, trips, a, cap, mode, hold⟩ = tickS x := fun x => by unfold stepS; rw [if_neg hk, if_pos h4]
      simp only [hs]
      subst h4
      have P := tick_st o s k x hx (by omega) (H1.out.front 1 rfl)
      clear hs hk hko HC hcl H1
      replace P := Lib.hid P
      go_enter Try.func37, Try.ntmps37
      go_wp2_with fail
      refine Calls.mono P.out ?_
      rintro e w5 ⟨rfl, H5⟩
      have P2 := rtick_st q t y hy (by omega) (H5.front 2 rfl)
      clear P H5
      replace P2 := Lib.hid P2
      go_wp2_with fail
      refine Calls.mono P2.out ?_
      rintro e w6 ⟨rfl, H6⟩
      clear P2
      replace H6 := Lib.hid H6
      go_wp2_with fail
      go_ret
      exact ⟨_, rfl, by rintro rfl; simp, (H6.out.arrN [1, 0] rfl).drop 2 rfl⟩
    · by_cases h5 : kind = 5
      · have hs : ∀ x, stepS x ⟨kind, own, num, dat, trips, a, cap, mode, hold⟩ = recvS x := fun x => by unfold stepS; rw [if_neg hk, if_neg h4, if_pos h5]
        simp only [hs]
        subst h5
        have P := recv_st o s k x hx (by omega) (H1.out.front 1 rfl)
        have hxy : x = y → recvD x = recvD y ∧ (!x.rdy.isEmpty) = (!y.rdy.isEmpty) := by rintro rfl; exact ⟨rfl, rfl⟩
        have P2 := fun w' (r' : List Asn) (h : St W' S0 w' (rordP q t y :: r')) => rrecv_st q t y hy (by omega) h
        generalize recvD x = d at *
        generalize recvD y = f at *
        generalize (!x.rdy.isEmpty) = ok at *
        generalize (!y.rdy.isEmpty) = is at *
        obtain ⟨d1, d2⟩ := d
        obtain ⟨g1, g2⟩ := f
        clear hs hk hko HC hcl H1 h4
        simp only at P P2
        replace P := Lib.hid P; replace P2 := Lib.hid P2; replace hxy := Lib.hid hxy
        go_enter Try.func37, Try.ntmps37
        go_wp2_with fail
        refine Calls.mono P.out ?_
        rintro e w5 ⟨rfl, H5⟩
        have HB := ((H5.alloc [.int .i64 d1, .string d2] 45).arrN [3, 0, 1, 2] rfl)
        have P3 := P2.out _ _ HB
        clear P H5 HB P2
        replace P3 := Lib.hid P3
        go_wp2_with fail
        refine Calls.mono P3.out ?_
        rintro e w6 ⟨rfl, H6⟩
        have HE := ((H6.arrN [2, 0, 1, 3] rfl).drop 2 rfl).drop 2 rfl
        obtain ⟨z6, k6, f6⟩ := H6.box 1 rfl
        have HF := HE.skip (.cells #[.int .i64 g1, .string g2] 45)
        clear P3 H6 HE
        replace HF := Lib.hid HF
        by_cases c1 : d1 = g1
        · have c1' : decide (d1 = g1) = true := decide_eq_true c1
          by_cases c2 : d2.toList = g2.toList
          · have c2' : decide (d2.toList = g2.toList) = true := decide_eq_true c2
            replace c1 := Lib.hid c1
            replace c2 := Lib.hid c2
            by_cases c3 : ok = is
            · subst c3
              have c3' : (ok == ok) = true := by simp
              go_wp2_with fail
              go_ret
              exact ⟨_, rfl, fun _ => by simp, HF.out⟩
            · have c3' : (ok == is) = false := by simpa using c3
              have c3'' : decide (ok = is) = false := by simpa using c3
              replace c3 := Lib.hid c3
              go_wp2_with fail
              go_ret
              exact ⟨_, rfl, fun e => absurd (hxy.out e).2 c3.out, HF.out⟩
          · have c2' : decide (d2.toList = g2.toList) = false := decide_eq_false c2
            replace c1 := Lib.hid c1
            replace c2 := Lib.hid c2
            go_wp2_with fail
            go_ret
            exact ⟨_, rfl, fun e => absurd (congrArg (fun p : Dg => p.2.toList) (hxy.out e).1) c2.out, HF.out⟩
        · have c1' : decide (d1 = g1) = false := decide_eq_false c1
          replace c1 := Lib.hid c1
          go_wp2_with fail
          go_ret
          exact ⟨_, rfl, fun e => absurd (congrArg Prod.fst (hxy.out e).1) c1.out, HF.out⟩
      · by_cases h6 : kind = 6
        · have hs : ∀ x, stepS x ⟨kind, own, num, dat, trips, a, cap, mode, hold⟩ = setS x mode hold := fun x => by unfold stepS; rw [if_neg hk, if_neg h4, if_neg h5, if_pos h6]
          simp only [hs]
          subst h6
          have P1 := fun w => rcheck_any mode hold w
          have P2 := fun w' (r' : List Asn) (h : St W' S0 w' (orderP o s k x :: r')) => set_st o s k x mode hold h
          have hsy : setS y mode hold = if checkF mode hold = 0 then { y with mode := mode, hold := hold } else y := rfl
          generalize checkF mode hold = ce at *
          clear hs hk hko HC hcl h4 h5
          replace P1 := Lib.hid P1; replace P2 := Lib.hid P2; replace hsy := Lib.hid hsy
          go_enter Try.func37, Try.ntmps37
          go_wp2_with fail
          refine Calls.mono (P1.out _) ?_
          rintro e w5 ⟨rfl, hb5⟩
          have z5 := Below.size hb5; try simp only [World.size_alloc, World.size_setCell, World.size_drew] at z5
          have H5 := H1.out.thru hb5
          obtain ⟨z5, k5, f5⟩ := H5.box 0 rfl
          clear P1 H1
          by_cases hce : ce = 0
          · subst hce
            rw [if_pos rfl] at hsy
            obtain ⟨v5, H6⟩ := rordP_open (H5.front 2 rfl)
            obtain ⟨z6, k6, f6⟩ := H6.box 0 rfl
            have H7 := ((H6.set 0 rfl 0 (.int .i64 mode) (by simp [rordC])).set 0 rfl 1 (.int .i64 hold) (by simp [rordC]))
            have H8 : St W' S0 ((w5.setCell ⟨q, 0, none⟩ (.int .i64 mode)).setCell ⟨q, 1, none⟩ (.int .i64 hold)) (rordP q t (setS y mode hold) :: cellA w.heap.size [.int .i64 6, .int .i64 own, .int .i64 num, .string dat, .slice a trips.length cap, .int .i64 mode, .int .i64 hold] :: orderP o s k x :: r) := by rw [hsy.out]; exact rordP_shut (x := { y with mode := mode, hold := hold }) H7
            have n1 := H6.ne_cells 0 3 rfl rfl (by decide)
            have n2 : ¬ w.heap.size = q := fun e => n1 e.symm
            have P3 := P2.out _ _ (H8.front 2 rfl)
            unfold rordC at k6
            clear P2 H5 H6 H7 H8
            replace P3 := Lib.hid P3
            go_wp2_with fail
            refine Calls.mono P3.out ?_
            rintro e w8 ⟨rfl, H9⟩
            clear P3
            replace H9 := Lib.hid H9
            go_wp2_with fail
            go_ret
            exact ⟨_, rfl, fun _ => by simp, H9.out.drop 2 rfl⟩
          · have q1 : (ce == 0) = false := by simpa using hce
            have q2 : decide (ce = 0) = false := decide_eq_false hce
            rw [if_neg hce] at hsy
            have P3 := P2.out _ _ (H5.front 1 rfl)
            replace hce := Lib.hid hce
            clear P2 H5
            replace P3 := Lib.hid P3
            go_wp2_with fail
            refine Calls.mono P3.out ?_
            rintro e w8 ⟨rfl, H9⟩
            clear P3
            replace H9 := Lib.hid H9
            go_wp2_with fail
            go_ret
            exact ⟨_, rfl, fun _ => by simp, by rw [hsy.out]; exact (H9.out.drop 1 rfl)⟩
        · by_cases h7 : kind = 7
          · have hs : ∀ x, stepS x ⟨kind, own, num, dat, trips, a, cap, mode, hold⟩ = flushS x := fun x => by unfold stepS; rw [if_neg hk, if_neg h4, if_neg h5, if_neg h6, if_pos h7]
            simp only [hs]
            subst h7
            have P := flush_st o s k x hx (by omega) (H1.out.front 1 rfl)
            have hxy : x = y → dueK x (lateM x.l).1 = dueK y (lateM y.l).1 := by rintro rfl; rfl
            have P1 := fun w' (r' : List Asn) (h : St W' S0 w' (rordP q t y :: r')) => rflush_st q t y hy (by omega) h
            generalize dueK x (lateM x.l).1 = nx at *
            generalize dueK y (lateM y.l).1 = ny at *
            clear hs hk hko HC hcl H1 h4 h5 h6
            replace P := Lib.hid P; replace P1 := Lib.hid P1; replace hxy := Lib.hid hxy
            go_enter Try.func37, Try.ntmps37
            go_wp2_with fail
            refine Calls.mono P.out ?_
            rintro e w5 ⟨rfl, H5⟩
            have P2 := P1.out _ _ (H5.front 2 rfl)
            clear P P1 H5
            replace P2 := Lib.hid P2
            go_wp2_with fail
            refine Calls.mono P2.out ?_
            rintro e w6 ⟨rfl, H6⟩
            clear P2
            replace H6 := Lib.hid H6
            go_wp2_with fail
            go_ret
            exact ⟨_, rfl, fun e => by rw [hxy.out e]; simp, (H6.out.arrN [1, 0] rfl).drop 2 rfl⟩
          · have hs : ∀ x, stepS x ⟨kind, own, num, dat, trips, a, cap, mode, hold⟩ = x := fun x => by unfold stepS; rw [if_neg hk, if_neg h4, if_neg h5, if_neg h6, if_neg h7]
            simp only [hs]
            have q0 : (kind == 0) = false := by simpa using hko.1
            have q1 : (kind == 1) = false := by simpa using hko.2.1
            have q2 : (kind == 2) = false := by simpa using hko.2.2.1
            have q3 : (kind == 3) = false := by simpa using hko.2.2.2
            have q4 : (kind == 4) = false := by simpa using h4
            have q5 : (kind == 5) = false := by simpa using h5
            have q6 : (kind == 6) = false := by simpa using h6
            have q7 : (kind == 7) = false := by simpa using h7
            clear hs hk hko HC hcl h4 h5 h6 h7
            go_enter Try.func37, Try.ntmps37
            go_wp2_with fail
            go_ret
            exact ⟨_, rfl, fun _ => rfl, H1.out.drop 0 rfl⟩
end Go.Proofs.Ytiaefmmcakagpaa.Ord
