
/- The walks of the package flight: New, Put, Pipe, Oldest, Drop. -/
import Derived.Test.YtpajedpkdfacoaaDockSweepPtr
import Derived.Test.YtpajedpkdfacoaaAvecAt2F
import Derived.Test.YtpajedpkdfacoaaMadeTC
namespace Go.Proofs.Ytpajedpkdfacoaa.Flight
set_option linter.unusedSimpArgs false
set_option linter.unusedVariables false
open Go Go.RowKit Go.Shelf Go.Proofs.Ytpajedpkdfacoaa Go.Proofs.Ytpajedpkdfacoaa.DockSPtr Go.Proofs.Ytpajedpkdfacoaa.Circ
attribute [local irreducible] Calls

/-- A packet under way: where it lies, its number, when it was sent, how many later ones came. -/
structure Un where
  b : Nat
  seq : Int
  at_ : Int
  later : Int
def ptr (u : Un) : Option Addr := some ⟨u.b, 0, none⟩
def unA (u : Un) : Asn := cellA u.b [.int .i64 u.seq, .int .i64 u.at_, .int .i64 u.later]
def unsA (l : List Un) : Asn := sepA (l.map unA)
def flightA (f : Nat) (l : List Un) : Asn := exA fun d => sepA [cellA f [.pointer (some ⟨d, 0, none⟩)], dockA d 64 (l.map ptr), unsA l]
theorem flight_parts {W w : World} {S : Nat → Prop} {f : Nat} {l : List Un} {r : List Asn} (h : St W S w (flightA f l :: r)) : ∃ d, St W S w (cellA f [.pointer (some ⟨d, 0, none⟩)] :: dockA d 64 (l.map ptr) :: unsA l :: r) := by
  obtain ⟨d, h⟩ := St.unex 0 h rfl
  exact ⟨d, St.unsep 0 h rfl⟩
theorem flight_shut {W w : World} {S : Nat → Prop} {f d : Nat} {l : List Un} {r : List Asn} (h : St W S w (cellA f [.pointer (some ⟨d, 0, none⟩)] :: dockA d 64 (l.map ptr) :: unsA l :: r)) : St W S w (flightA f l :: r) :=
  St.ex (fun d => sepA [cellA f [.pointer (some ⟨d, 0, none⟩)], dockA d 64 (l.map ptr), unsA l]) d (St.join [_, _, _] r h)
theorem uns_add {W w : World} {S : Nat → Prop} {l : List Un} {u : Un} {r : List Asn} (h : St W S w (unA u :: unsA l :: r)) : St W S w (unsA (l ++ [u]) :: r) := by
  have h1 : St W S w (unsA l :: unA u :: r) := h.front 1 rfl
  have h2 : St W S w (l.map unA ++ (unA u :: r)) := St.unsep 0 h1 rfl
  have h3 : St W S w ((l ++ [u]).map unA ++ r) := by rw [List.map_append, List.append_assoc]; exact h2
  exact St.join _ _ h3
theorem uns_nil {W w : World} {S : Nat → Prop} {r : List Asn} (h : St W S w r) : St W S w (unsA [] :: r) := St.join [] r h

theorem new_any (w : World) : Calls Try.prog 53 #[] w fun e w' => ∃ f, e = .returned (.pointer (some ⟨f, 0, none⟩)) ∧ St w none0 w' [flightA f []] := by
  go_enter Try.func53, Try.ntmps53
  go_wp2_with fail
  refine Calls.mono (DockSPtr.new_any 64 _) ?_
  rintro e w1 ⟨d, rfl, h1⟩
  have H := flight_shut (l := []) ((((uns_nil h1).front 1 rfl).alloc [.pointer (some ⟨d, 0, none⟩)] 148))
  replace H := Lib.hid H
  go_wp2_with fail
  go_ret
  exact ⟨_, rfl, H.out⟩
def timeV (now : Int) : Int := min (max now 0) 1099511627776
theorem time_any (now : Int) (w : World) : Calls Try.prog 120 #[.int .i64 now] w (Ret w (.int .i64 (timeV now))) := by
  unfold timeV
  go_enter Try.func120, Try.ntmps120
  go_wp2_with fail
  go_ret
  exact Ret.mk rfl (by repeat (first | with_reducible exact Below.refl _ _ | (with_reducible refine Below.al ?_) | (with_reducible refine Below.drew ?_) | (with_reducible refine Below.set ?_ (by first | (simp; done) | omega | (simp; omega))) | (with_reducible refine Below.thru ?_ (by assumption)) | (with_reducible refine Below.chg ?_ (by assumption) (by first | (simp; done) | omega | (simp; omega)))))
theorem pipe_none (w : World) : Calls Try.prog 62 #[.pointer none] w (Ret w (.int .i64 0)) := by
  go_enter Try.func62, Try.ntmps62
  go_wp2_with fail
  go_ret
  exact Ret.mk rfl (by repeat (first | with_reducible exact Below.refl _ _ | (with_reducible refine Below.al ?_) | (with_reducible refine Below.drew ?_) | (with_reducible refine Below.set ?_ (by first | (simp; done) | omega | (simp; omega))) | (with_reducible refine Below.thru ?_ (by assumption)) | (with_reducible refine Below.chg ?_ (by assumption) (by first | (simp; done) | omega | (simp; omega)))))
theorem pipe_any (f : Nat) (l : List Un) (w : World) (S : Nat → Prop) (h : (flightA f l).holds w S) : Calls Try.prog 62 #[.pointer (some ⟨f, 0, none⟩)] w (Ret w (.int .i64 l.length)) := by
  have H0 : St w S w [flightA f l] := St.start (Sep.one h)
  obtain ⟨d, H⟩ := flight_parts H0
  obtain ⟨z, c, ff⟩ := H.box 0 rfl
  obtain ⟨SD, hD⟩ := H.held 1 rfl
  have P := DockSPtr.len_any d 64 (l.map ptr) w SD hD
  rw [List.length_map] at P
  clear hD
  replace H := Lib.hid H; replace H0 := Lib.hid H0
  go_enter Try.func62, Try.ntmps62
  go_wp2_with fail
  refine Calls.mono (P) ?_
  rintro e w1 ⟨rfl, hb1⟩
  have z1 := Below.size hb1; try simp only [World.size_alloc, World.size_setCell, World.size_drew] at z1
  go_wp2_with fail
  go_ret
  exact Ret.mk rfl (by repeat (first | with_reducible exact Below.refl _ _ | (with_reducible refine Below.al ?_) | (with_reducible refine Below.drew ?_) | (with_reducible refine Below.set ?_ (by first | (simp; done) | omega | (simp; omega))) | (with_reducible refine Below.thru ?_ (by assumption)) | (with_reducible refine Below.chg ?_ (by assumption) (by first | (simp; done) | omega | (simp; omega)))))
theorem drop_true (x : El) (w : World) : Calls Try.prog 116 #[val x] w (Ret w (.bool true)) := by
  unfold val
  go_enter Try.func116, Try.ntmps116
  go_wp2_with fail
  go_ret
  exact Ret.mk rfl (by repeat (first | with_reducible exact Below.refl _ _ | (with_reducible refine Below.al ?_) | (with_reducible refine Below.drew ?_) | (with_reducible refine Below.set ?_ (by first | (simp; done) | omega | (simp; omega))) | (with_reducible refine Below.thru ?_ (by assumption)) | (with_reducible refine Below.chg ?_ (by assumption) (by first | (simp; done) | omega | (simp; omega)))))
theorem drop_none (w : World) : Calls Try.prog 68 #[.pointer none] w (Ret w (.int .i64 0)) := by
  go_enter Try.func68, Try.ntmps68
  go_wp2_with fail
  go_ret
  exact Ret.mk rfl (by repeat (first | with_reducible exact Below.refl _ _ | (with_reducible refine Below.al ?_) | (with_reducible refine Below.drew ?_) | (with_reducible refine Below.set ?_ (by first | (simp; done) | omega | (simp; omega))) | (with_reducible refine Below.thru ?_ (by assumption)) | (with_reducible refine Below.chg ?_ (by assumption) (by first | (simp; done) | omega | (simp; omega)))))
theorem outs_all : ∀ (l pre : List El), outs (fun _ _ => true) pre l = l
  | [], _ => rfl
  | x :: l, pre => by simp [outs, outs_all l]
theorem rests_all : ∀ (l pre : List El), rests (fun _ _ => true) pre l = []
  | [], _ => rfl
  | x :: l, pre => by simp [rests, rests_all l]
set_option maxRecDepth 100000 in
theorem drop_any (f : Nat) (l : List Un) (hl : l.length ≤ 1000) (w : World) (S : Nat → Prop) (h : (flightA f l).holds w S) :
    Calls Try.prog 68 #[.pointer (some ⟨f, 0, none⟩)] w (Fin w S (.int .i64 l.length) [flightA f []]) := by
  have H0 : St w S w [flightA f l] := St.start (Sep.one h)
  obtain ⟨d, H⟩ := flight_parts H0
  have H1 : St w S w [sepA [dockA d 64 (l.map ptr), sepA []], cellA f [.pointer (some ⟨d, 0, none⟩)]] := St.join [_, _] [_] (((St.join [] _ (H.drop 2 rfl)).arr [2, 0, 1] rfl))
  obtain ⟨S1, h1, _, hback⟩ := H1.at 0 rfl
  have P := sweep_any d 64 (l.map ptr) (by simp; omega) 116 #[] (enters_of Try.func116 (by kernel_rfl) rfl) (fun _ _ => true) (fun _ => sepA [])
    (fun pre x suf w' S' _ hS => (drop_true x w').mono fun e w2 ⟨he, hb⟩ => ⟨he, (St.start (Sep.one hS)).thru hb⟩) w S1 h1
  rw [outs_all, rests_all, List.length_map] at P
  obtain ⟨z, c, ff⟩ := H.box 0 rfl
  clear H0 h H h1
  replace H1 := Lib.hid H1; replace hback := Lib.hid hback
  go_enter Try.func68, Try.ntmps68
  go_wp2_with fail
  refine Calls.mono P ?_
  rintro e w1 ⟨v, rfl, h2⟩
  have H2 := hback.out w1 _ h2
  obtain ⟨va, vc, rfl, _⟩ := St.slice (by omega) 0 H2 rfl
  have H3 := flight_shut (l := []) (d := d) (((uns_nil (H2.drop 0 rfl)).arrN [3, 1, 0, 2] rfl))
  clear P H1
  replace H3 := Lib.hid H3
  go_wp2_with fail
  go_ret
  exact ⟨rfl, H3.out.drops 1⟩
end Go.Proofs.Ytpajedpkdfacoaa.Flight
