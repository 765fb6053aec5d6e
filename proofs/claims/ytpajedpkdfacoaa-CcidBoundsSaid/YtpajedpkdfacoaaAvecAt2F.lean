/- The walk of avec.At. -/
import Derived.Test.YtpajedpkdfacoaaAvecAtF
namespace Go.Proofs.Ytpajedpkdfacoaa.Avec
set_option linter.unusedSimpArgs false
set_option linter.unusedVariables false
open Go Go.RowKit Go.Shelf Go.Proofs.Ytpajedpkdfacoaa Go.Proofs.Ytpajedpkdfacoaa.Circ
attribute [local irreducible] Calls
attribute [local go_sem] Oper.semAt_some

/-- The state told of one, the first time. -/
def findV (L : List (Int × Int)) (s : Int) : Int := match L.find? (fun x => x.1 == s) with | some x => x.2 | none => 3
theorem find_hit {L : List (Int × Int)} {pre suf : List (Int × Int)} {x : Int × Int} {s : Int} (e : L = pre ++ x :: suf) (hp : ∀ y ∈ pre, y.1 ≠ s) (hx : x.1 = s) : findV L s = x.2 := by
  subst e
  unfold findV
  rw [List.find?_append, List.find?_eq_none.2 (by intro y hy; simpa using hp y hy)]
  simp [hx]
theorem find_none {L : List (Int × Int)} {s : Int} (hp : ∀ y ∈ L, y.1 ≠ s) : findV L s = 3 := by
  unfold findV
  rw [List.find?_eq_none.2 (by intro y hy; simpa using hp y hy)]
def atI (b5 b6 : Nat) (s : Int) (pre : List (Int × Int)) : List Asn := [andA (∀ y ∈ pre, y.1 ≠ ofC s) (sepA [cellA b5 [.int .i64 s], cellA b6 [.int .i64 0]])]
def atX (b5 b6 : Nat) (s v : Int) (c : Code) (_ : List (Int × Int)) : List Asn := [andA (c = .ret) (sepA [cellA b5 [.int .i64 s], cellA b6 [.int .i64 v]])]
set_option maxRecDepth 100000 in
set_option maxHeartbeats 1000000 in
theorem at_any (f s : Int) (R : List Run) (n cap : Nat) (hl : R.length = n) (hn : n ≤ 100000) (a : Option Addr) (w : World) (hR : Rd w a (runs R)) :
    Calls Try.prog 125 #[.int .i64 f, .slice a n cap, .int .i64 s] w (Ret w (.int .i64 (findV (eachL f R) (ofC s)))) := by
  obtain ⟨v, hv⟩ : ∃ v, v = findV (eachL f R) (ofC s) := ⟨_, rfl⟩
  rw [← hv]
  have H0 := ((St.zero w).alloc [.int .i64 s] 3).alloc [.int .i64 0] 3
  simp only [World.size_alloc] at H0
  replace H0 := Lib.hid H0; replace hv := Lib.hid hv; replace hR := Lib.hid hR; replace hl := Lib.hid hl
  refine callsIn_wide.1 (callsIn_of_wp_marks (n := 10) Try.func125 rfl trivial ?_ rfl)
  simp only [Try.ntmps125, List.size_toArray, List.length_cons, List.length_nil, Nat.reduceAdd, Nat.reduceSub, Array.replicate_succ, Array.replicate_zero, List.push_toArray, List.append_toArray, List.nil_append, List.cons_append]
  gi_wp2
  refine ⟨trivial, (callsIn_wide.2 (each_new f a n cap _)).mono ?_⟩
  rintro e w1 ⟨b1, b2, rfl, HA⟩
  simp only []
  have H1 := (H0.out.add HA)
  have H2 := H1.arr [0, 1, 3, 2] rfl
  have H3 : St w none0 w1 ([cellA b1 [.int .i64 f], cellA b2 [.slice a n cap]] ++ atI w.heap.size (w.heap.size + 1) s []) := (St.and (by simp) (St.join [_, _] [_, _] (H2.arr [2, 3, 0, 1] rfl))).arr [1, 2, 0] rfl
  clear H0 H1 H2 HA
  gi_wp2
  refine wpIn_range_st rfl (by decide) (gf := 144) (lb := #[.pointer (some ⟨b1, 0, none⟩), .pointer (some ⟨b2, 0, none⟩)]) rfl trivial (enters_of Try.func144 (by kernel_rfl) rfl)
    (each_iter _ b1 b2 f R n cap hl.out hn a w none0 (fun w' l h => hR.out.below h.below)) (fun _ => rfl) (atI w.heap.size (w.heap.size + 1) s) (atX w.heap.size (w.heap.size + 1) s v) H3 ?round ?done ?stop
  case round =>
    intro L pre x suf w1 hx
    obtain ⟨sq, stt⟩ := x
    gi_wp2
    refine ⟨trivial, ?_⟩
    intro p w3 hs
    obtain ⟨hno, h1⟩ := (hs.perm List.perm_append_comm).unand 0 rfl
    have h2 := St.unsep 0 h1 rfl
    have P := fun W => Circ.of_any s W
    obtain ⟨z5, c5, f5⟩ := h2.box 0 rfl
    clear hs h1 H3
    by_cases hq : sq = ofC s
    · have hv2 : v = stt := by rw [hv.out]; exact find_hit hx hno hq
      have q : (sq == ofC s) = true := by simpa using hq
      subst hv2
      generalize ofC s = y at *
      replace P := Lib.hid P; replace h2 := Lib.hid h2; replace hno := Lib.hid hno; replace hx := Lib.hid hx; replace hq := Lib.hid hq; replace hv := Lib.hid hv
      clear c5 f5 z5
      obtain ⟨z5, c5, f5⟩ := h2.out.box 0 rfl
      gi_wp2
      refine ⟨trivial, (CallsIn.inRound L (callsIn_wide.2 (P.out _))).mono ?_⟩
      rintro e w4 ⟨rfl, hb4⟩
      have h3 := h2.out.thru hb4
      obtain ⟨z6, c6, f6⟩ := h3.box 1 rfl
      have h4 := h3.set 1 rfl 0 (.int .i64 v) (by simp)
      clear P c5 f5
      replace h3 := Lib.hid h3; replace h4 := Lib.hid h4
      simp only []
      gi_wp2
      exact (St.and rfl (St.join [_, _] _ (h4.out.arrN [1, 0] rfl))).perm (List.perm_append_comm (l₁ := [_]))
    · have q : (sq == ofC s) = false := by simpa using hq
      have hno2 : ∀ y ∈ pre ++ [(sq, stt)], y.1 ≠ ofC s := by
        intro y hy
        rcases List.mem_append.1 hy with hy | hy
        · exact hno y hy
        · obtain rfl : y = (sq, stt) := by simpa using hy
          exact hq
      replace P := Lib.hid P; replace h2 := Lib.hid h2; replace hno2 := Lib.hid hno2; replace hx := Lib.hid hx; replace hq := Lib.hid hq; replace hv := Lib.hid hv
      generalize hy : ofC s = y at *
      replace hy := Lib.hid hy
      gi_wp2
      refine ⟨trivial, (CallsIn.inRound L (callsIn_wide.2 (P.out _))).mono ?_⟩
      rintro e w4 ⟨rfl, hb4⟩
      have h3 := h2.out.thru hb4
      clear P c5 f5
      replace h3 := Lib.hid h3
      simp only []
      gi_wp2
      exact (St.and (by rw [hy.out]; exact hno2.out) (St.join [_, _] _ h3.out)).perm (List.perm_append_comm (l₁ := [_]))
  case done =>
    intro D w2 hs
    have h0 : St w none0 w2 ([andA (∀ y ∈ eachL f R, y.1 ≠ ofC s) (sepA [cellA w.heap.size [.int .i64 s], cellA (w.heap.size + 1) [.int .i64 0]]), objA D (.deferred (some [])), cellA b1 [.int .i64 f], cellA b2 [.slice a n cap]]) := St.arr (l := [objA D (.deferred (some [])), cellA b1 [.int .i64 f], cellA b2 [.slice a n cap], andA (∀ y ∈ eachL f R, y.1 ≠ ofC s) (sepA [cellA w.heap.size [.int .i64 s], cellA (w.heap.size + 1) [.int .i64 0]])]) hs [3, 0, 1, 2] rfl
    obtain ⟨hno, h1⟩ := h0.unand 0 rfl
    have h2 := St.unsep 0 h1 rfl
    have hv3 : v = 3 := by rw [hv.out]; exact find_none hno
    subst hv3
    obtain ⟨z6, c6, f6⟩ := h2.box 1 rfl
    have h3 := h2.set 1 rfl 0 (.int .i64 3) (by simp)
    have hD := h3.obj 2 rfl
    have HP := h3.putObj 2 rfl (.deferred none)
    obtain ⟨z7, c7, f7⟩ := HP.box 1 rfl
    clear hs h0 h1 h2 h3 H3
    replace hD := Lib.hid hD; replace HP := Lib.hid HP; replace hno := Lib.hid hno; replace hv := Lib.hid hv
    gi_wp2
    refine ⟨by simp, .inl ⟨_, _, rfl, run_takeDeferred hD.out, ?_⟩⟩
    exact ⟨.int .i64 3, by simp [results, Try.results125, go_sem, c7], rfl, HP.out.below⟩
  case stop =>
    intro D c pre x suf w2 hx hs
    have h0 : St w none0 w2 ([andA (c = .ret) (sepA [cellA w.heap.size [.int .i64 s], cellA (w.heap.size + 1) [.int .i64 v]]), objA D (.deferred (some [])), cellA b1 [.int .i64 f], cellA b2 [.slice a n cap]]) := St.arr (l := [objA D (.deferred (some [])), cellA b1 [.int .i64 f], cellA b2 [.slice a n cap], andA (c = .ret) (sepA [cellA w.heap.size [.int .i64 s], cellA (w.heap.size + 1) [.int .i64 v]])]) hs [3, 0, 1, 2] rfl
    obtain ⟨hc, h1⟩ := h0.unand 0 rfl
    subst hc
    have h2 := St.unsep 0 h1 rfl
    obtain ⟨z6, c6, f6⟩ := h2.box 1 rfl
    have hD := h2.obj 2 rfl
    have HP := h2.putObj 2 rfl (.deferred none)
    obtain ⟨z7, c7, f7⟩ := HP.box 2 rfl
    clear hs h0 h1 h2 H3
    replace hD := Lib.hid hD; replace HP := Lib.hid HP; replace hx := Lib.hid hx; replace hv := Lib.hid hv
    gi_wp2
    refine ⟨by simp, .inl ⟨_, _, rfl, run_takeDeferred hD.out, ?_⟩⟩
    exact ⟨.int .i64 v, by simp [results, Try.results125, go_sem, c7], rfl, HP.out.below⟩
end Go.Proofs.Ytpajedpkdfacoaa.Avec
