/- The walks of feat.find, confirmed. -/
import Derived.Test.YtljgmephajocaaaFeatGet
namespace Go.Proofs.Ytljgmephajocaaa.Feat
set_option linter.unusedSimpArgs false
set_option linter.unusedVariables false
open Go Go.RowKit Go.Shelf Go.Proofs.Ytljgmephajocaaa
attribute [local irreducible] Calls

/-- A feature, and where its likes lie. -/
structure Fe where
  num : Int
  likes : List Int
  a : Option Addr
  cap : Nat
def encF (x : Fe) : List Value := [.int .i64 x.num, .slice x.a x.likes.length x.cap]
def valF (x : Fe) : Value := .agg #[.int .i64 x.num, .slice x.a x.likes.length x.cap]
theorem encF_len (x : Fe) : (encF x).length = 2 := rfl
def RdF (w : World) (a : Option Addr) (l : List Fe) : Prop := Rd w a (l.flatMap encF) ∧ ∀ x ∈ l, Rd w x.a (i64s x.likes)
theorem RdF.below {w w' : World} {a : Option Addr} {l : List Fe} (h : RdF w a l) (hb : Below w.heap.size w w') : RdF w' a l := ⟨h.1.below hb, fun x hx => (h.2 x hx).below hb⟩
theorem fes_at {w : World} {a : Option Addr} {l : List Fe} (h : RdF w a l) {j : Nat} (hj : j < l.length) :
    ∃ b off, a = some ⟨b, off, none⟩ ∧ b < w.heap.size ∧ w.cell? ⟨b, off + j * 2, none⟩ = some (.int .i64 l[j].num) ∧ w.cell? ⟨b, off + j * 2 + 1, none⟩ = some (.slice l[j].a l[j].likes.length l[j].cap) := by
  obtain ⟨b, off, e, hb, hc⟩ := Rd.rows encF_len (by omega) h.1 rfl (by omega)
  exact ⟨b, off, e, hb, hc j hj 0 _ rfl, hc j hj 1 _ rfl⟩
def zeroF : Fe := ⟨0, [], none, 0⟩
def isN (number : Int) (x : Fe) : Bool := x.num == number
def findV (l : List Fe) (number : Int) : Fe := (l.find? (isN number)).getD zeroF
theorem is_any (x : Fe) (number : Int) (b : Nat) (w : World) (hb : w.cell? ⟨b, 0, none⟩ = some (.int .i64 number)) (hlt : b < w.heap.size) :
    Calls Try.prog 144 #[valF x, .pointer (some ⟨b, 0, none⟩)] w (Ret w (.bool (isN number x))) := by
  unfold valF isN
  go_enter Try.func144, Try.ntmps144
  go_wp2_with fail
  go_ret
  exact Ret.mk rfl (by repeat (first | with_reducible exact Below.refl _ _ | (with_reducible refine Below.al ?_) | (with_reducible refine Below.drew ?_) | (with_reducible refine Below.set ?_ (by first | (simp; done) | omega | (simp; omega))) | (with_reducible refine Below.thru ?_ (by assumption)) | (with_reducible refine Below.chg ?_ (by assumption) (by first | (simp; done) | omega | (simp; omega)))))
set_option maxRecDepth 100000 in
set_option maxHeartbeats 400000 in
theorem indexF_any (l : List Fe) (n : Nat) (hl : l.length = n) (hn : n ≤ 1000000) (a : Option Addr) (cap : Nat) (w : World) (h : RdF w a l) (number : Int) (bb : Nat) (hbb : w.cell? ⟨bb, 0, none⟩ = some (.int .i64 number)) (hbl : bb < w.heap.size) :
    Calls Try.prog 143 #[.slice a n cap, .func (.func 144) #[] #[.pointer (some ⟨bb, 0, none⟩)]] w (Ret w (.int .i64 (idxF (isN number) l))) := by
  have hcall : ∀ (x : Fe) (w' : World), Below w.heap.size w w' → Calls Try.prog 144 #[valF x, .pointer (some ⟨bb, 0, none⟩)] w' (Ret w' (.bool (isN number x))) := fun x w' hb => is_any x number bb w' ((hb.cell (p := ⟨bb, 0, none⟩) hbl).trans hbb) (Nat.lt_of_lt_of_le hbl hb.size)
  obtain ⟨pr, hpr⟩ : ∃ pr, isN number = pr := ⟨_, rfl⟩
  rw [hpr] at hcall ⊢
  clear hpr hbb
  replace h := Lib.hid h; replace hl := Lib.hid hl; replace hcall := Lib.hid hcall
  go_enter Try.func143, Try.ntmps143
  go_wp2_with fail
  go_loopg [5, 8] n (fun g _ i wr => ∃ j : Nat, j ≤ n ∧ g = n - j ∧ i = .int .i64 j ∧ Hid (∀ k (hk : k < l.length), k < j → pr l[k] = false) ∧ Below w.heap.size w wr)
  case atStart => exact ⟨0, by omega, by omega, rfl, (fun k hk h => by omega), (by repeat (first | with_reducible exact Below.refl _ _ | (with_reducible refine Below.al ?_) | (with_reducible refine Below.drew ?_) | (with_reducible refine Below.set ?_ (by first | (simp; done) | omega | (simp; omega))) | (with_reducible refine Below.thru ?_ (by assumption)) | (with_reducible refine Below.chg ?_ (by assumption) (by first | (simp; done) | omega | (simp; omega)))))⟩
  case round =>
    obtain ⟨j, hj, hg, rfl, hno, hbw⟩ := hrel
    by_cases hlt : j < n
    · have hjl : j < l.length := by have := hl.out; omega
      obtain ⟨b, off, rfl, hb, e0, e1⟩ := fes_at (h.out.below hbw) hjl
      have P := hcall.out l[j] wr hbw
      unfold valF at P
      have hit : pr l[j] = true → idxF pr l = (j : Int) := fun h => idx_some hjl h (fun k hk hkj => hno.out k hk hkj)
      have hnx : pr l[j] = false → ∀ k (hk : k < l.length), k < j + 1 → pr l[k] = false := fun h0 k hk h1 => by
        by_cases e : k = j
        · subst e; exact h0
        · exact hno.out k hk (by omega)
      cases hb0 : pr l[j] with
      | true =>
        rw [hb0] at P
        replace hit := Lib.hid (hit hb0)
        clear hnx
        generalize l[j] = x at *
        replace P := Lib.hid P; replace hb0 := Lib.hid hb0
        go_wp2_with fail
        refine Calls.mono (P.out) ?_
        rintro e w1 ⟨rfl, hb1⟩
        have z1 := Below.size hb1; try simp only [World.size_alloc, World.size_setCell, World.size_drew] at z1
        clear P
        go_wp2_with fail
        go_ret
        exact Ret.mk (by rw [hit.out]; rfl) (by repeat (first | with_reducible exact Below.refl _ _ | (with_reducible refine Below.al ?_) | (with_reducible refine Below.drew ?_) | (with_reducible refine Below.set ?_ (by first | (simp; done) | omega | (simp; omega))) | (with_reducible refine Below.thru ?_ (by assumption)) | (with_reducible refine Below.chg ?_ (by assumption) (by first | (simp; done) | omega | (simp; omega)))))
      | false =>
        rw [hb0] at P
        replace hnx := Lib.hid (hnx hb0)
        clear hit
        generalize l[j] = x at *
        replace P := Lib.hid P; replace hb0 := Lib.hid hb0
        go_wp2_with fail
        refine Calls.mono (P.out) ?_
        rintro e w1 ⟨rfl, hb1⟩
        have z1 := Below.size hb1; try simp only [World.size_alloc, World.size_setCell, World.size_drew] at z1
        clear P
        go_wp2_with fail
        go_roundg (n - (j + 1))
        case measure => omega
        case rel => exact ⟨j + 1, by omega, rfl, by go_num, hnx.out, (by repeat (first | with_reducible exact Below.refl _ _ | (with_reducible refine Below.al ?_) | (with_reducible refine Below.drew ?_) | (with_reducible refine Below.set ?_ (by first | (simp; done) | omega | (simp; omega))) | (with_reducible refine Below.thru ?_ (by assumption)) | (with_reducible refine Below.chg ?_ (by assumption) (by first | (simp; done) | omega | (simp; omega)))))⟩
    · obtain rfl : j = n := by omega
      have hf : idxF pr l = -1 := idx_none (fun i hi => hno.out i hi (by have := hl.out; omega))
      replace hf := Lib.hid hf
      go_wp2_with fail
      go_ret
      exact Ret.mk (by rw [hf.out]; rfl) (by repeat (first | with_reducible exact Below.refl _ _ | (with_reducible refine Below.al ?_) | (with_reducible refine Below.drew ?_) | (with_reducible refine Below.set ?_ (by first | (simp; done) | omega | (simp; omega))) | (with_reducible refine Below.thru ?_ (by assumption)) | (with_reducible refine Below.chg ?_ (by assumption) (by first | (simp; done) | omega | (simp; omega)))))
theorem find_idx (l : List Fe) (p : Fe → Bool) : (l.any p = false ∧ l.find? p = none ∧ idxF p l = -1) ∨ ∃ (j : Nat) (hj : j < l.length), l.any p = true ∧ l.find? p = some l[j] ∧ idxF p l = (j : Int) := by
  cases h : l.any p with
  | false =>
    refine .inl ⟨rfl, ?_, by unfold idxF; rw [h]; rfl⟩
    rw [List.find?_eq_none]
    intro x hx
    have := List.any_eq_false.1 h x hx
    simpa using this
  | true =>
    have h2 : l.findIdx p < l.length := by
      rw [List.findIdx_lt_length]
      simpa using h
    refine .inr ⟨l.findIdx p, h2, rfl, ?_, by unfold idxF; rw [h]; rfl⟩
    rw [List.find?_eq_some_iff_getElem]
    exact ⟨List.findIdx_getElem (w := h2), _, h2, rfl, fun k hk => by have := List.not_of_lt_findIdx hk; simpa using this⟩
set_option maxRecDepth 100000 in
set_option maxHeartbeats 400000 in
theorem find_any (l : List Fe) (n : Nat) (hl : l.length = n) (hn : n ≤ 1000000) (a : Option Addr) (cap : Nat) (w : World) (h : RdF w a l) (number : Int) :
    Calls Try.prog 110 #[.slice a n cap, .int .i64 number] w (Ret w (.tuple #[valF (findV l number), .bool (l.any (isN number))])) := by
  have H0 := ((St.zero w).alloc [.int .i64 number] 3).alloc [.int .i64 0, .slice none 0 0] 88
  simp only [World.size_alloc] at H0
  have P := indexF_any l n hl hn a cap _ (h.below H0.below) number w.heap.size (by simp) (H0.box 1 rfl).lt
  unfold findV valF
  rcases find_idx l (isN number) with ⟨h1, h2, h3⟩ | ⟨j, hj, h1, h2, h3⟩
  · rw [h1, h2]
    rw [h3] at P
    clear h1 h2 h3 h
    replace H0 := Lib.hid H0
    go_enter Try.func110, Try.ntmps110
    go_wp2_with fail
    refine Calls.mono P ?_
    rintro e w1 ⟨rfl, hb1⟩
    have H1 := H0.out.thru hb1
    obtain ⟨z1, c1, f1⟩ := H1.box 0 rfl
    have H2 := ((((H1).set 0 rfl 0 (.int .i64 0) (by simp))).set 0 rfl 1 (.slice none 0 0) (by simp))
    clear P H0
    replace H1 := Lib.hid H1; replace H2 := Lib.hid H2
    go_wp2_with fail
    exact bodyPost_ret (v := .tuple #[.agg #[.int .i64 0, .slice none 0 0], .bool false]) (by simp [results, Try.results110, go_sem, c1, z1]; try rfl) rfl (Ret.mk rfl H2.out.below)
  · rw [h1, h2]
    rw [h3] at P
    clear h1 h2 h3
    simp only [Option.getD_some]
    replace H0 := Lib.hid H0; replace h := Lib.hid h
    go_enter Try.func110, Try.ntmps110
    go_wp2_with fail
    refine Calls.mono P ?_
    rintro e w1 ⟨rfl, hb1⟩
    have H1 := H0.out.thru hb1
    obtain ⟨b, off, rfl, hb, e0, e1⟩ := fes_at (h.out.below H1.below) hj
    have hjn : j < n := by omega
    obtain ⟨z1, c1, f1⟩ := H1.box 0 rfl
    have H2 := ((((H1).set 0 rfl 0 (.int .i64 l[j].num) (by simp))).set 0 rfl 1 (.slice l[j].a l[j].likes.length l[j].cap) (by simp))
    clear P H0
    replace H1 := Lib.hid H1; replace H2 := Lib.hid H2
    go_wp2_with fail
    exact bodyPost_ret (v := .tuple #[.agg #[.int .i64 l[j].num, .slice l[j].a l[j].likes.length l[j].cap], .bool true]) (by simp [results, Try.results110, go_sem, c1, z1]; try rfl) rfl (Ret.mk rfl H2.out.below)

def confL (likes : List Int) (n : Int) : List Int := n :: likes.filter (fun k => k != n)
set_option maxRecDepth 100000 in
set_option maxHeartbeats 400000 in
theorem conf_any (x : Fe) (n : Int) (hn : x.likes.length ≤ 100000) (w : World) (h : Rd w x.a (i64s x.likes)) :
    Calls Try.prog 111 #[valF x, .int .i64 n] w (fun e w' => ∃ la lc, e = .returned (.agg #[.int .i64 x.num, .slice la (confL x.likes n).length lc]) ∧ St w none0 w' [rowA 1 (.slice la (confL x.likes n).length lc) (confL x.likes n).length (i64s (confL x.likes n))]) := by
  obtain ⟨i0, hi, hz, hz1, hz2⟩ := info_parts int_info
  have H0 := (((St.zero w).alloc [.int .i64 x.num, .slice x.a x.likes.length x.cap] 88).alloc [.int .i64 0, .slice none 0 0] 88)
  simp only [World.size_alloc] at H0
  have H1 := (H0.alloc [.int .i64 n] 3).row_made (size := 1) (n := 1) 0 rfl rfl (by decide)
  simp only [World.size_alloc] at H1
  unfold valF
  obtain ⟨num, l, a, cap⟩ := x
  simp only at *
  replace H0 := Lib.hid H0; replace H1 := Lib.hid H1; replace h := Lib.hid h
  go_enter Try.func111, Try.ntmps111
  go_wp2_with fail
  go_loopg [5, 7, 13] l.length (fun g lv _ i wr => ∃ j : Nat, j ≤ l.length ∧ g = l.length - j ∧ i = .int .i64 j ∧ St w none0 wr [rowA 1 lv (confL (l.take j) n).length (i64s (confL (l.take j) n)), cellA (w.heap.size + 1) [.int .i64 0, .slice none 0 0], cellA w.heap.size [.int .i64 num, .slice a l.length cap]])
  case atStart => exact ⟨0, by omega, by omega, rfl, H1.out⟩
  case round =>
    obtain ⟨lv, hlv⟩ : ∃ v, v = u5 := ⟨_, rfl⟩
    subst hlv
    obtain ⟨j, hj, hg, rfl, hst⟩ := hrel
    obtain ⟨la, lc, rfl, _⟩ := St.slice (by omega) 0 hst rfl
    clear H0 H1
    have hcl : (confL (l.take j) n).length ≤ 100001 := by
      unfold confL
      have := List.length_filter_le (fun k => k != n) (l.take j)
      simp only [List.length_cons]
      simp only [List.length_take] at this
      omega
    by_cases hlt : j < l.length
    · obtain ⟨b, off, rfl, hb, e0⟩ := ints_at (h.out.below hst.below) hlt
      by_cases hq : l[j] = n
      · have q : (l[j] != n) = false := by simp [hq]
        have hnx : confL (l.take (j + 1)) n = confL (l.take j) n := by unfold confL; rw [List.take_succ_eq_append_getElem hlt]; simp [hq]
        replace hq := Lib.hid hq
        replace hst := Lib.hid hst; replace hnx := Lib.hid hnx
        go_wp2_with fail
        go_roundg (l.length - (j + 1))
        case measure => omega
        case rel => exact ⟨j + 1, by omega, rfl, by go_num, by rw [hnx.out]; exact hst.out⟩
      · have q : (l[j] != n) = true := by simp [hq]
        have hnx : confL (l.take (j + 1)) n = confL (l.take j) n ++ [l[j]] := by unfold confL; rw [List.take_succ_eq_append_getElem hlt, List.filter_append, show List.filter (fun k => k != n) [l[j]] = [l[j]] from by simp [hq]]; rfl
        replace hq := Lib.hid hq
        generalize confL (l.take j) n = cl at *
        replace hst := Lib.hid hst; replace hnx := Lib.hid hnx
        go_wp2_with (at_builtin; (refine wpList_appS rfl (.tmp 20) (.tmp 22) _ rfl 3 i0 _ 1 8 Try.underlying46 hi hz hz1 hz2 rfl (by omega) 0 _ cl.length _ rfl hst.out rfl 1 1 [.int .i64 l[j]] rfl rfl (by simp [Value.oneCell']) (by omega) (by omega) ?_; intro wv5 w5 H5; rw [i64s_app] at H5; replace H5 := Lib.hid H5))
        go_roundg (l.length - (j + 1))
        case measure => omega
        case rel => exact ⟨j + 1, by omega, rfl, by go_num, by rw [hnx.out, List.length_append]; exact H5.out⟩
    · obtain rfl : j = l.length := by omega
      rw [List.take_length] at hst ⊢
      obtain ⟨z1, c1, f1⟩ := hst.box 1 rfl
      obtain ⟨z2, c2, f2⟩ := hst.box 2 rfl
      have H2 := (((((hst.front 1 rfl)).set 0 rfl 0 (.int .i64 num) (by simp))).set 0 rfl 1 (.slice la (confL l n).length lc) (by simp))
      replace hst := Lib.hid hst; replace H2 := Lib.hid H2
      go_wp2_with fail
      refine bodyPost_ret (v := .agg #[.int .i64 num, .slice la (confL l n).length lc]) (by simp [results, Try.results111, go_sem, c1, z1]; try rfl) rfl ?_
      exact ⟨la, lc, rfl, (H2.out.front 1 rfl).drops 1⟩
end Go.Proofs.Ytljgmephajocaaa.Feat
