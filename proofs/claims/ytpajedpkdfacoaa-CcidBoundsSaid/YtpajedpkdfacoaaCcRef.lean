/- The walks of the document's control, as it begins: whatever is asked of it, it answers. -/
import Derived.Test.YtpajedpkdfacoaaCcTick
import Derived.Test.YtpajedpkdfacoaaCircleR
namespace Go.Proofs.Ytpajedpkdfacoaa.CcRef
set_option linter.unusedSimpArgs false
set_option linter.unusedVariables false
open Go Go.RowKit Go.Shelf Go.Proofs.Ytpajedpkdfacoaa Go.Proofs.Ytpajedpkdfacoaa.Circ
attribute [local irreducible] Calls

def rcV (h f : Nat) : List Value := [.pointer (some ⟨h, 0, none⟩), .pointer (some ⟨f, 0, none⟩), .int .i64 3, .int .i64 16, .int .i64 0, .bool false, .int .i64 0, .int .i64 1, .int .i64 0, .int .i64 0, .int .i64 0, .int .i64 0, .bool false, .int .i64 0, .int .i64 0]
def hV (g : Nat) (n : Int) : List Value := [.int .i64 n, .int .i64 n, .slice (some ⟨g, 0, none⟩) 1 1, .int .i64 0, .int .i64 0]
def refC (b : Nat) (n : Int) : Asn := exA fun h => exA fun f => exA fun g => sepA [cellA b (rcV h f), cellA f [.slice none 0 0], cellA h (hV g n), cellA g [.int .i64 n]]
theorem ref_parts {W w : World} {S : Nat → Prop} {b : Nat} {n : Int} {r : List Asn} (h : St W S w (refC b n :: r)) : ∃ p f g, St W S w (cellA b (rcV p f) :: cellA f [.slice none 0 0] :: cellA p (hV g n) :: cellA g [.int .i64 n] :: r) := by
  obtain ⟨p, h⟩ := St.unex 0 h rfl
  obtain ⟨f, h⟩ := St.unex 0 h rfl
  obtain ⟨g, h⟩ := St.unex 0 h rfl
  exact ⟨p, f, g, St.unsep 0 h rfl⟩
theorem ref_shut {W w : World} {S : Nat → Prop} {b p f g : Nat} {n : Int} {r : List Asn} (h : St W S w (cellA b (rcV p f) :: cellA f [.slice none 0 0] :: cellA p (hV g n) :: cellA g [.int .i64 n] :: r)) : St W S w (refC b n :: r) :=
  St.ex (fun h => exA fun f => exA fun g => sepA [cellA b (rcV h f), cellA f [.slice none 0 0], cellA h (hV g n), cellA g [.int .i64 n]]) p (St.ex (fun f => exA fun g => sepA [cellA b (rcV p f), cellA f [.slice none 0 0], cellA p (hV g n), cellA g [.int .i64 n]]) f (St.ex (fun g => sepA [cellA b (rcV p f), cellA f [.slice none 0 0], cellA p (hV g n), cellA g [.int .i64 n]]) g (St.join [_, _, _, _] r h)))
theorem hnew_any (n : Int) (w : World) : Calls Try.prog 60 #[.int .i64 n] w fun e w' => ∃ p g, e = .returned (.pointer (some ⟨p, 0, none⟩)) ∧ St w none0 w' [cellA p (hV g (ofC n)), cellA g [.int .i64 (ofC n)]] := by
  obtain ⟨m, hm⟩ : ∃ m, ofC n = m := ⟨_, rfl⟩
  have P := fun W => rof_any n W
  rw [hm] at P ⊢
  clear hm
  replace P := Lib.hid P
  go_enter Try.func60, Try.ntmps60
  go_wp2_with fail
  refine Calls.mono (P.out _) ?_
  rintro e w1 ⟨rfl, hb1⟩
  have z1 := Below.size hb1; try simp only [World.size_alloc, World.size_setCell, World.size_drew] at z1
  have H := (((St.zero w).thru hb1).alloc [.int .i64 m] 3).alloc (hV w1.heap.size m) 113
  unfold hV at H
  simp only [World.size_alloc] at H
  replace H := Lib.hid H
  go_wp2_with fail
  go_ret
  exact ⟨_, w1.heap.size, rfl, H.out⟩
theorem wnew_any (w : World) : Calls Try.prog 61 #[] w (Ret w (.agg #[.int .i64 3, .int .i64 16, .int .i64 0, .bool false, .int .i64 0])) := by
  have H := (St.zero w).alloc [.int .i64 3, .int .i64 16, .int .i64 0, .bool false, .int .i64 0] 106
  replace H := Lib.hid H
  go_enter Try.func61, Try.ntmps61
  go_wp2_with fail
  exact bodyPost_ret (v := .agg #[.int .i64 3, .int .i64 16, .int .i64 0, .bool false, .int .i64 0]) (by simp [results, Try.results61, go_sem]) rfl (H.out.ret rfl)
theorem rnew_any (n : Int) (w : World) : Calls Try.prog 24 #[.int .i64 n] w fun e w' => ∃ b, e = .returned (.pointer (some ⟨b, 0, none⟩)) ∧ St w none0 w' [refC b (ofC n)] := by
  go_enter Try.func24, Try.ntmps24
  go_wp2_with fail
  refine Calls.mono (hnew_any n _) ?_
  rintro e w1 ⟨p, g, rfl, H1⟩
  have H2 := H1.alloc [.slice none 0 0] 117
  clear H1
  replace H2 := Lib.hid H2
  go_wp2_with fail
  refine Calls.mono (wnew_any _) ?_
  rintro e w2 ⟨rfl, hb2⟩
  have z2 := Below.size hb2; try simp only [World.size_alloc, World.size_setCell, World.size_drew] at z2
  have H3 := (H2.out.thru hb2).alloc (rcV p w1.heap.size) 110
  clear H2
  unfold rcV at H3
  replace H3 := Lib.hid H3
  go_wp2_with fail
  go_ret
  exact ⟨_, rfl, ref_shut H3.out⟩
theorem rtime_any (now : Int) (w : World) : Calls Try.prog 96 #[.int .i64 now] w (Ret w (.int .i64 (Flight.timeV now))) := by
  unfold Flight.timeV
  go_enter Try.func96, Try.ntmps96
  go_wp2_with fail
  go_ret
  exact Ret.mk rfl (by repeat (first | with_reducible exact Below.refl _ _ | (with_reducible refine Below.al ?_) | (with_reducible refine Below.drew ?_) | (with_reducible refine Below.set ?_ (by first | (simp; done) | omega | (simp; omega))) | (with_reducible refine Below.thru ?_ (by assumption)) | (with_reducible refine Below.chg ?_ (by assumption) (by first | (simp; done) | omega | (simp; omega)))))
section
variable {W w : World} {S : Nat → Prop} {b p f g : Nat} {n : Int} {r : List Asn}
theorem rroom_st {vs : List Value} (h0 : vs[1]? = some (.pointer (some ⟨f, 0, none⟩))) (h1 : vs[2]? = some (.int .i64 3)) (H : St W S w (cellA b vs :: cellA f [.slice none 0 0] :: r)) : Calls Try.prog 95 #[.pointer (some ⟨b, 0, none⟩)] w (Ret w (.bool true)) := by
  obtain ⟨z, c, ff⟩ := H.box 0 rfl
  obtain ⟨z2, c2, ff2⟩ := H.box 1 rfl
  have e1 := (c 1).trans h0
  have e2 := (c 2).trans h1
  clear H c h0 h1
  go_enter Try.func95, Try.ntmps95
  go_wp2_with fail
  refine wp_region_near (by kernel_rfl) (by kernel_rfl) ?_
  intro hs
  repeat (go_big_quiet_step (fail))
  refine wpQuiet_nil ?_
  clear hs
  intro w1 hb1
  go_wp2_with fail
  go_ret
  exact Ret.mk rfl (by repeat (first | with_reducible exact Below.refl _ _ | (with_reducible refine Below.al ?_) | (with_reducible refine Below.drew ?_) | (with_reducible refine Below.set ?_ (by first | (simp; done) | omega | (simp; omega))) | (with_reducible refine Below.thru ?_ (by assumption)) | (with_reducible refine Below.chg ?_ (by assumption) (by first | (simp; done) | omega | (simp; omega)))))
end
end Go.Proofs.Ytpajedpkdfacoaa.CcRef
