/- Options of several paths, plainly: the fields of a kind; what is wrong with one. -/
import Derived.Test.YtpajedpkdfacoaaRd
namespace Go.Proofs.Ytpajedpkdfacoaa.Mp
set_option linter.unusedSimpArgs false
set_option linter.unusedVariables false
open Go Go.RowKit

/-- An option of several paths. -/
structure Mu where
  kind : Int
  addr : Int
  prio : Int
  num : Int
  token : Int
  nonce : Int
  dat : ByteArray
def encM (m : Mu) : List Value := [.int .i64 m.kind, .int .i64 m.addr, .int .i64 m.prio, .int .i64 m.num, .int .i64 m.token, .int .i64 m.nonce, .string m.dat]
def zeroM : Mu := ⟨0, 0, 0, 0, 0, 0, ⟨#[]⟩⟩
/-- A field: a number that stands at a place and has so many bytes; bytes, of which there may be so many. -/
inductive Fd
  | num (i size : Nat)
  | byt (sizes : List Int)
/-- The fields of a kind. -/
def fieldsO (k : Int) : Option (List Fd) :=
  if k = 0 then some [.num 3 4, .byt [32]]
  else if k = 1 then some [.num 1 1, .num 4 4, .num 5 4]
  else if k = 3 then some [.byt [8, 16]]
  else if k = 4 then some [.num 3 6]
  else if k = 5 then some [.byt [32]]
  else if k = 6 then some [.num 3 2]
  else if k = 7 ∨ k = 8 then some [.num 1 1, .num 3 4]
  else if k = 9 then some [.num 1 1, .num 2 1, .num 3 4]
  else if k = 10 then some [.num 3 4]
  else if k = 11 then some [.num 3 1]
  else none
def getM (m : Mu) (i : Nat) : Int := if i = 1 then m.addr else if i = 2 then m.prio else if i = 3 then m.num else if i = 4 then m.token else m.nonce
def setM (m : Mu) (i : Nat) (v : Int) : Mu := if i = 1 then { m with addr := v } else if i = 2 then { m with prio := v } else if i = 3 then { m with num := v } else if i = 4 then { m with token := v } else { m with nonce := v }
/-- What is wrong with a field. -/
def chkF (m : Mu) : Fd → Int
  | .num i s => if getM m i < 0 ∨ getM m i / 2 ^ (8 * s) ≠ 0 then 3 else 0
  | .byt l => if (m.dat.size : Int) ∈ l then 0 else 11
def chkL (m : Mu) : List Fd → Int
  | [] => 0
  | f :: l => if chkF m f = 0 then chkL m l else chkF m f
def blankF (m : Mu) : Fd → Mu
  | .num i _ => setM m i 0
  | .byt _ => { m with dat := ⟨#[]⟩ }
/-- It without its fields. -/
def spareM (m : Mu) (l : List Fd) : Mu := l.foldl blankF { m with kind := 0 }
def isZero (m : Mu) : Bool := m.kind == 0 && m.addr == 0 && m.prio == 0 && m.num == 0 && m.token == 0 && m.nonce == 0 && m.dat.size == 0
def checkM (m : Mu) : Int :=
  match fieldsO m.kind with
  | none => 7
  | some l => if chkL m l = 0 then (if isZero (spareM m l) then 0 else 4) else chkL m l

/-- The document's: of Addr, Prio, Token, Nonce, Num the bytes; the least and the most bytes behind. -/
def sizesM (k : Int) : List Int :=
  if k = 0 then [0, 0, 0, 0, 4, 32, 32]
  else if k = 1 then [1, 0, 4, 4, 0, 0, 0]
  else if k = 3 then [0, 0, 0, 0, 0, 8, 16]
  else if k = 4 then [0, 0, 0, 0, 6, 0, 0]
  else if k = 5 then [0, 0, 0, 0, 0, 32, 32]
  else if k = 6 then [0, 0, 0, 0, 2, 0, 0]
  else if k = 7 ∨ k = 8 then [1, 0, 0, 0, 4, 0, 0]
  else if k = 9 then [1, 1, 0, 0, 4, 0, 0]
  else if k = 10 then [0, 0, 0, 0, 4, 0, 0]
  else if k = 11 then [0, 0, 0, 0, 1, 0, 0]
  else [0, 0, 0, 0, 0, 0, 0]
def numsM (m : Mu) : List Int := [m.addr, m.prio, m.token, m.nonce, m.num]
def knownM (k : Int) : Bool := decide (0 ≤ k) && decide (k ≤ 11) && decide (k ≠ 2)
/-- Is one out of its range? -/
def outR (z n : Int) : Bool := decide (0 < z) && (decide (n < 0) || decide (2 ^ (8 * z).toNat ≤ n))
def hadR (z n : Int) : Bool := z == 0 && n != 0
def rcheckM (m : Mu) : Int :=
  let z := sizesM m.kind
  if knownM m.kind = false then 7
  else if ((z.zip (numsM m)).any fun p => outR p.1 p.2) then 3
  else if 0 < z.getD 6 0 ∧ (m.dat.size : Int) ≠ z.getD 5 0 ∧ (m.dat.size : Int) ≠ z.getD 6 0 then 11
  else if ((z.zip (numsM m)).any fun p => hadR p.1 p.2) then 4
  else if z.getD 6 0 = 0 ∧ m.dat.size ≠ 0 then 4
  else 0
theorem kinds {k : Int} (h : fieldsO k ≠ none) : k = 0 ∨ k = 1 ∨ k = 3 ∨ k = 4 ∨ k = 5 ∨ k = 6 ∨ k = 7 ∨ k = 8 ∨ k = 9 ∨ k = 10 ∨ k = 11 := by
  unfold fieldsO at h
  repeat' split at h
  all_goals first | omega | exact absurd rfl h
theorem known_iff (k : Int) : knownM k = (fieldsO k).isSome := by
  cases hf : fieldsO k with
  | none =>
    unfold fieldsO at hf
    repeat' split at hf
    all_goals first | cases hf | skip
    simp [knownM]; omega
  | some l =>
    rcases kinds (by rw [hf]; simp) with rfl | rfl | rfl | rfl | rfl | rfl | rfl | rfl | rfl | rfl | rfl <;> rfl
theorem div_zero {n : Int} {k : Nat} (h : 0 ≤ n) : n / 2 ^ k ≠ 0 ↔ 2 ^ k ≤ n := by
  have hp : (0 : Int) < 2 ^ k := Int.pow_pos (by omega)
  constructor
  · intro h1
    refine Int.not_lt.1 fun h2 => h1 (Int.ediv_eq_zero_of_lt h h2)
  · intro h1 h2
    have := Int.le_ediv_of_mul_le hp (show 1 * 2 ^ k ≤ n by omega)
    omega
theorem outR_num (s : Nat) (hs : 0 < s) (n : Int) : outR (s : Int) n = decide (n < 0 ∨ n / 2 ^ (8 * s) ≠ 0) := by
  unfold outR
  have e : (8 * (s : Int)).toNat = 8 * s := by omega
  rw [e, decide_eq_true (by omega : (0 : Int) < (s : Int)), Bool.true_and]
  by_cases h : n < 0
  · simp [h]
  · have := div_zero (k := 8 * s) (show 0 ≤ n by omega)
    by_cases h2 : (2 : Int) ^ (8 * s) ≤ n
    · simp [h, h2, this.2 h2]
    · have h3 : n / 2 ^ (8 * s) = 0 := Decidable.not_not.1 fun h4 => h2 (this.1 h4)
      simp [h, h2, h3]
theorem outR_zero (n : Int) : outR 0 n = false := rfl
theorem chk_num (m : Mu) (i s : Nat) (hs : 0 < s) : chkF m (.num i s) = if outR (s : Int) (getM m i) = true then 3 else 0 := by
  rw [outR_num s hs]
  simp only [chkF, decide_eq_true_eq]
set_option maxHeartbeats 4000000 in
theorem check_same (m : Mu) : checkM m = rcheckM m := by
  unfold checkM rcheckM
  rw [known_iff]
  cases hf : fieldsO m.kind with
  | none => rfl
  | some l =>
    obtain ⟨kind, addr, prio, num, token, nonce, dat⟩ := m
    have hk := kinds (k := kind) (by simp only at hf; rw [hf]; simp)
    simp only at hf hk ⊢
    generalize hd : dat.size = d
    have hb : ∀ l : List Int, chkF ⟨kind, addr, prio, num, token, nonce, dat⟩ (.byt l) = if (d : Int) ∈ l then 0 else 11 := fun l => by rw [← hd]; rfl
    rcases hk with rfl | rfl | rfl | rfl | rfl | rfl | rfl | rfl | rfl | rfl | rfl <;>
    · simp +decide only [fieldsO, if_true, if_false, reduceIte, Option.some.injEq] at hf
      subst hf
      simp only [chkL, chk_num _ _ 1 (by omega), chk_num _ _ 2 (by omega), chk_num _ _ 4 (by omega), chk_num _ _ 6 (by omega), hb]
      simp only [sizesM, numsM, getM, spareM, List.foldl, blankF, setM, isZero, hadR, hd]
      simp +decide only [if_true, if_false, Int.natCast_one, Int.cast_ofNat_Int, reduceIte, List.zip_cons_cons, List.zip_nil_left, List.zip_nil_right, List.any_cons, List.any_nil, outR_zero, List.getD_cons_succ, List.getD_cons_zero, Bool.or_false, Bool.false_or]
      clear hb
      simp only [bne, List.mem_cons, List.not_mem_nil, or_false, ne_eq, true_and, false_and, if_false]
      generalize outR 1 addr = b0
      generalize outR 1 prio = b1
      generalize outR 4 num = b2
      generalize outR 6 num = b3
      generalize outR 2 num = b4
      generalize outR 1 num = b5
      generalize outR 4 token = b6
      generalize outR 4 nonce = b7
      have hz : (⟨#[]⟩ : ByteArray).size = 0 := rfl
      simp only [hz, hd, beq_self_eq_true, Bool.true_and, Bool.and_true]
      clear hd
      repeat' split
      all_goals first | rfl | omega | (simp_all; done) | (simp_all; omega)
end Go.Proofs.Ytpajedpkdfacoaa.Mp
