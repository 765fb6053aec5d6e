/- The walk of mpopt.of: the fields of a kind, as memory holds them. -/
import Derived.Test.YtpajedpkdfacoaaMpPlain
import Derived.Test.YtpajedpkdfacoaaMore
import Derived.Deep.LoopGhost
namespace Go.Proofs.Ytpajedpkdfacoaa.Mp
set_option linter.unusedSimpArgs false
set_option linter.unusedVariables false
open Go Go.RowKit Go.Proofs.Ytpajedpkdfacoaa
attribute [local irreducible] Calls

/-- The function that tells where a field stands. -/
def fnM (i : Nat) : Nat := if i = 1 then 72 else if i = 2 then 75 else if i = 3 then 71 else if i = 4 then 73 else 74
def encFd (q : Nat) : Fd → Value
  | .num i s => .iface 124 (.agg #[.func (.func (fnM i)) #[] #[], .int .i64 s])
  | .byt l => .iface 126 (.agg #[.slice (some ⟨q, 0, none⟩) l.length l.length])
def szA (q : Nat) : List Fd → Asn
  | [] => sepA []
  | .byt l :: _ => cellA q (i64s l)
  | _ :: l => szA q l
set_option maxRecDepth 100000 in
theorem of_none (k : Int) (h : fieldsO k = none) (w : World) : Calls Try.prog 31 #[.int .i64 k] w (Ret w (.tuple #[.slice none 0 0, .bool false])) := by
  have hn : ∀ j : Int, (j = 0 ∨ j = 1 ∨ j = 3 ∨ j = 4 ∨ j = 5 ∨ j = 6 ∨ j = 7 ∨ j = 8 ∨ j = 9 ∨ j = 10 ∨ j = 11) → (k == j) = false := fun j hj => by
    rw [beq_eq_false_iff_ne]
    rintro rfl
    rcases hj with rfl | rfl | rfl | rfl | rfl | rfl | rfl | rfl | rfl | rfl | rfl <;> cases h
  have h0 := hn 0 (by simp)
  have h1 := hn 1 (by simp)
  have h3 := hn 3 (by simp)
  have h4 := hn 4 (by simp)
  have h5 := hn 5 (by simp)
  have h6 := hn 6 (by simp)
  have h7 := hn 7 (by simp)
  have h8 := hn 8 (by simp)
  have h9 := hn 9 (by simp)
  have h10 := hn 10 (by simp)
  have h11 := hn 11 (by simp)
  clear hn h
  go_enter Try.func31, Try.ntmps31
  go_wp2_with fail
  go_ret2
  exact Ret.mk rfl (by repeat (first | with_reducible exact Below.refl _ _ | (with_reducible refine Below.al ?_) | (with_reducible refine Below.drew ?_) | (with_reducible refine Below.set ?_ (by first | (simp; done) | omega | (simp; omega))) | (with_reducible refine Below.thru ?_ (by assumption)) | (with_reducible refine Below.chg ?_ (by assumption) (by first | (simp; done) | omega | (simp; omega)))))
set_option maxRecDepth 100000 in
set_option maxHeartbeats 1000000 in
theorem of_any (k : Int) (l : List Fd) (h : fieldsO k = some l) (w : World) :
    Calls Try.prog 31 #[.int .i64 k] w (fun e w' => ∃ b q, e = .returned (.tuple #[.slice (some ⟨b, 0, none⟩) l.length l.length, .bool true]) ∧ St w none0 w' [cellA b (l.map (encFd q)), szA q l]) := by
  have hk := kinds (k := k) (by rw [h]; simp)
  rcases hk with rfl | rfl | rfl | rfl | rfl | rfl | rfl | rfl | rfl | rfl | rfl
  · have hl : l = [.num 3 4, .byt [32]] := (Option.some.inj h).symm
    subst hl
    have H := ((St.zero w).alloc (i64s [32]) 3).alloc (List.map (encFd w.heap.size) [.num 3 4, .byt [32]]) 64
    simp only [World.size_alloc] at H
    clear h
    replace H := Lib.hid H
    go_enter Try.func31, Try.ntmps31
    go_wp2_with fail
    go_ret2
    exact ⟨_, _, rfl, H.out⟩
  · have hl : l = [.num 1 1, .num 4 4, .num 5 4] := (Option.some.inj h).symm
    subst hl
    have H : St w none0 _ [sepA [], _] := St.join [] _ ((St.zero w).alloc (List.map (encFd w.heap.size) [.num 1 1, .num 4 4, .num 5 4]) 64)
    replace H := H.arr [1, 0] rfl
    clear h
    replace H := Lib.hid H
    go_enter Try.func31, Try.ntmps31
    go_wp2_with fail
    go_ret2
    exact ⟨_, _, rfl, H.out⟩
  · have hl : l = [.byt [8, 16]] := (Option.some.inj h).symm
    subst hl
    have H := ((St.zero w).alloc (i64s [8, 16]) 3).alloc (List.map (encFd w.heap.size) [.byt [8, 16]]) 64
    simp only [World.size_alloc] at H
    clear h
    replace H := Lib.hid H
    go_enter Try.func31, Try.ntmps31
    go_wp2_with fail
    go_ret2
    exact ⟨_, _, rfl, H.out⟩
  · have hl : l = [.num 3 6] := (Option.some.inj h).symm
    subst hl
    have H : St w none0 _ [sepA [], _] := St.join [] _ ((St.zero w).alloc (List.map (encFd w.heap.size) [.num 3 6]) 64)
    replace H := H.arr [1, 0] rfl
    clear h
    replace H := Lib.hid H
    go_enter Try.func31, Try.ntmps31
    go_wp2_with fail
    go_ret2
    exact ⟨_, _, rfl, H.out⟩
  · have hl : l = [.byt [32]] := (Option.some.inj h).symm
    subst hl
    have H := ((St.zero w).alloc (i64s [32]) 3).alloc (List.map (encFd w.heap.size) [.byt [32]]) 64
    simp only [World.size_alloc] at H
    clear h
    replace H := Lib.hid H
    go_enter Try.func31, Try.ntmps31
    go_wp2_with fail
    go_ret2
    exact ⟨_, _, rfl, H.out⟩
  · have hl : l = [.num 3 2] := (Option.some.inj h).symm
    subst hl
    have H : St w none0 _ [sepA [], _] := St.join [] _ ((St.zero w).alloc (List.map (encFd w.heap.size) [.num 3 2]) 64)
    replace H := H.arr [1, 0] rfl
    clear h
    replace H := Lib.hid H
    go_enter Try.func31, Try.ntmps31
    go_wp2_with fail
    go_ret2
    exact ⟨_, _, rfl, H.out⟩
  · have hl : l = [.num 1 1, .num 3 4] := (Option.some.inj h).symm
    subst hl
    have H : St w none0 _ [sepA [], _] := St.join [] _ ((St.zero w).alloc (List.map (encFd w.heap.size) [.num 1 1, .num 3 4]) 64)
    replace H := H.arr [1, 0] rfl
    clear h
    replace H := Lib.hid H
    go_enter Try.func31, Try.ntmps31
    go_wp2_with fail
    go_ret2
    exact ⟨_, _, rfl, H.out⟩
  · have hl : l = [.num 1 1, .num 3 4] := (Option.some.inj h).symm
    subst hl
    have H : St w none0 _ [sepA [], _] := St.join [] _ ((St.zero w).alloc (List.map (encFd w.heap.size) [.num 1 1, .num 3 4]) 64)
    replace H := H.arr [1, 0] rfl
    clear h
    replace H := Lib.hid H
    go_enter Try.func31, Try.ntmps31
    go_wp2_with fail
    go_ret2
    exact ⟨_, _, rfl, H.out⟩
  · have hl : l = [.num 1 1, .num 2 1, .num 3 4] := (Option.some.inj h).symm
    subst hl
    have H : St w none0 _ [sepA [], _] := St.join [] _ ((St.zero w).alloc (List.map (encFd w.heap.size) [.num 1 1, .num 2 1, .num 3 4]) 64)
    replace H := H.arr [1, 0] rfl
    clear h
    replace H := Lib.hid H
    go_enter Try.func31, Try.ntmps31
    go_wp2_with fail
    go_ret2
    exact ⟨_, _, rfl, H.out⟩
  · have hl : l = [.num 3 4] := (Option.some.inj h).symm
    subst hl
    have H : St w none0 _ [sepA [], _] := St.join [] _ ((St.zero w).alloc (List.map (encFd w.heap.size) [.num 3 4]) 64)
    replace H := H.arr [1, 0] rfl
    clear h
    replace H := Lib.hid H
    go_enter Try.func31, Try.ntmps31
    go_wp2_with fail
    go_ret2
    exact ⟨_, _, rfl, H.out⟩
  · have hl : l = [.num 3 1] := (Option.some.inj h).symm
    subst hl
    have H : St w none0 _ [sepA [], _] := St.join [] _ ((St.zero w).alloc (List.map (encFd w.heap.size) [.num 3 1]) 64)
    replace H := H.arr [1, 0] rfl
    clear h
    replace H := Lib.hid H
    go_enter Try.func31, Try.ntmps31
    go_wp2_with fail
    go_ret2
    exact ⟨_, _, rfl, H.out⟩
end Go.Proofs.Ytpajedpkdfacoaa.Mp
