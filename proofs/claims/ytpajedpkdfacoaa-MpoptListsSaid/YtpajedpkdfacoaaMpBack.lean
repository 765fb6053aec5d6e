/- What is put is got: numbers and bytes. -/
import Derived.Test.YtpajedpkdfacoaaMpLaw
namespace Go.Proofs.Ytpajedpkdfacoaa.Mp
set_option linter.unusedSimpArgs false
set_option linter.unusedVariables false
open Go Go.RowKit Go.Shelf Go.Proofs.Ytpajedpkdfacoaa Go.Proofs.Ytpajedpkdfacoaa.Octets

theorem ofB_putB (k : Nat) : ∀ n : Int, k ≤ 8 → (ofB (putB n k) : Int) = n % 256 ^ k := by
  induction k with
  | zero => intro n _; simp [putB, ofB]
  | succ k ih =>
    intro n hk
    have h1 := ih (n / 256) (by omega)
    rw [putB, ofB_snoc]
    have hb : ((UInt8.ofNat (n % 256).toNat).toNat : Int) = n % 256 := by
      simp only [UInt8.toNat_ofNat']
      omega
    have hp : (256 : Int) ^ k * 256 ≤ 18446744073709551616 := by
      match k, hk with
      | 0, _ => decide
      | 1, _ => decide
      | 2, _ => decide
      | 3, _ => decide
      | 4, _ => decide
      | 5, _ => decide
      | 6, _ => decide
      | 7, _ => decide
    have h0 : (0 : Int) < 256 ^ k := Int.pow_pos (by omega)
    have hm : n / 256 % 256 ^ k < 256 ^ k := Int.emod_lt_of_pos _ h0
    have hm0 : 0 ≤ n / 256 % 256 ^ k := Int.emod_nonneg _ (by omega)
    have key : n % 256 ^ (k + 1) = n / 256 % 256 ^ k * 256 + n % 256 := by
      have e1 : n = 256 * (n / 256) + n % 256 := by omega
      have e2 : n / 256 = 256 ^ k * (n / 256 / 256 ^ k) + n / 256 % 256 ^ k := (Int.mul_ediv_add_emod _ _).symm
      have e3 : n = (n / 256 % 256 ^ k * 256 + n % 256) + 256 ^ (k + 1) * (n / 256 / 256 ^ k) := by
        have : (256 : Int) ^ (k + 1) * (n / 256 / 256 ^ k) = 256 * (256 ^ k * (n / 256 / 256 ^ k)) := by rw [Int.pow_succ, Int.mul_comm (256 ^ k) 256, Int.mul_assoc]
        rw [this]
        omega
      rw [show n % 256 ^ (k + 1) = ((n / 256 % 256 ^ k * 256 + n % 256) + 256 ^ (k + 1) * (n / 256 / 256 ^ k)) % 256 ^ (k + 1) from by rw [← e3]]
      rw [Int.add_mul_emod_self_left]
      have hpk : (256 : Int) ^ (k + 1) = 256 ^ k * 256 := Int.pow_succ 256 k
      exact Int.emod_eq_of_lt (by omega) (by rw [hpk]; omega)
    rw [key]
    omega
theorem num_good (s : ByteArray) (at_ k : Nat) (h1 : 1 ≤ k) (h7 : k ≤ 7) (h : at_ + k ≤ s.size) : numV s at_ 0 k = wrap64 (ofB (s.extract at_ (at_ + k)).data.toList) ∧ numA s at_ 0 k = at_ + k ∧ numF s at_ 0 k = 0 := by
  have hb : bad (k : Int) = false := by unfold bad; simp; omega
  have hT : takeF s at_ 0 k false = 0 := by unfold takeF; rw [if_neg (by omega), if_neg (by simp), if_neg (by omega)]
  unfold numV numA numF
  rw [hb, hT]
  simp
theorem bytes_good (s : ByteArray) (at_ k : Nat) (h : at_ + k ≤ s.size) : bytesV s at_ 0 k = s.extract at_ (at_ + k) ∧ bytesA s at_ 0 k = at_ + k ∧ bytesF s at_ 0 k = 0 := by
  have hb : decide ((k : Int) < 0) = false := decide_eq_false (by omega)
  have hT : takeF s at_ 0 k false = 0 := by unfold takeF; rw [if_neg (by omega), if_neg (by simp), if_neg (by omega)]
  unfold bytesV bytesA bytesF
  rw [hb, hT]
  simp
theorem pow_bd (k : Nat) (h : k ≤ 7) : (256 : Int) ^ k ≤ 72057594037927936 ∧ 0 < (256 : Int) ^ k := by
  match k, h with
  | 0, _ => decide
  | 1, _ => decide
  | 2, _ => decide
  | 3, _ => decide
  | 4, _ => decide
  | 5, _ => decide
  | 6, _ => decide
  | 7, _ => decide
theorem wrap_putB (n : Int) (k : Nat) (h : k ≤ 7) : wrap64 (ofB (putB n k)) = n % 256 ^ k := by
  obtain ⟨h1, h2⟩ := pow_bd k h
  have := Int.emod_nonneg n (show (256 : Int) ^ k ≠ 0 by omega)
  have := Int.emod_lt_of_pos n h2
  rw [ofB_putB k n (by omega), IntWalk.wrap64_in _ (by omega)]
theorem cut_mid {t : ByteArray} {A B C : List UInt8} (h : t.data.toList = A ++ (B ++ C)) : (t.extract A.length (A.length + B.length)).data.toList = B ∧ A.length + B.length ≤ t.size := by
  have hs : t.size = (A ++ (B ++ C)).length := by rw [← h]; simp
  constructor
  · have : (t.extract A.length (A.length + B.length)).data.toList = List.take B.length (List.drop A.length t.data.toList) := by simp [List.extract]
    rw [this, h, List.drop_left, List.take_left]
  · rw [hs]
    simp only [List.length_append]
    omega
theorem num_back {t : ByteArray} {A C : List UInt8} {n : Int} {k : Nat} (h : t.data.toList = A ++ (putB n k ++ C)) (hk : 1 ≤ k ∧ k ≤ 7) (hn : 0 ≤ n ∧ n < 256 ^ k) {a : Nat} (ha : A.length = a) :
    numV t a 0 k = n ∧ numA t a 0 k = a + k ∧ numF t a 0 k = 0 := by
  subst ha
  obtain ⟨h1, h2⟩ := cut_mid h
  rw [putB_len] at h1 h2
  obtain ⟨g1, g2, g3⟩ := num_good t A.length k hk.1 hk.2 h2
  refine ⟨?_, g2, g3⟩
  rw [g1, h1, wrap_putB n k hk.2]
  exact Int.emod_eq_of_lt hn.1 hn.2
theorem byt_back {t d : ByteArray} {A : List UInt8} (h : t.data.toList = A ++ d.data.toList) {a : Nat} (ha : A.length = a) :
    bytesV t a 0 d.size = d ∧ bytesA t a 0 d.size = t.size ∧ bytesF t a 0 d.size = 0 ∧ (t.size : Int) - a = d.size := by
  subst ha
  have hd : d.data.toList.length = d.size := by simp
  have hs : t.size = A.length + d.size := by
    have : t.data.toList.length = t.size := by simp
    rw [← this, h, List.length_append, hd]
  obtain ⟨h1, h2⟩ := cut_mid (C := []) (by rw [List.append_nil]; exact h)
  rw [hd] at h1 h2
  obtain ⟨g1, g2, g3⟩ := bytes_good t A.length d.size h2
  refine ⟨?_, by rw [g2, hs], g3, by omega⟩
  rw [g1]
  apply ByteArray.ext
  apply Array.toList_inj.1
  exact h1
def fieldB (m : Mu) : Fd → List UInt8
  | .num i s => putB (getM m i) s
  | .byt _ => m.dat.data.toList
def copyF (m : Mu) (x : Mu) : Fd → Mu
  | .num i _ => setM x i (getM m i)
  | .byt _ => { x with dat := m.dat }
def lastB : List Fd → Prop
  | [] => True
  | .byt _ :: r => r = []
  | .num _ _ :: r => lastB r
def fineF : Fd → Prop
  | .num i s => (1 ≤ i ∧ i ≤ 5) ∧ (1 ≤ s ∧ s ≤ 6)
  | .byt z => z = [32] ∨ z = [8, 16]
theorem widest_is {z : List Int} (hz : z = [32] ∨ z = [8, 16]) {d : Nat} (hd : (d : Int) ∈ z) : widest (d : Int) z (z.headD 0) = d := by
  rcases hz with rfl | rfl
  · obtain h : (d : Int) = 32 := by simpa using hd
    rw [h]; rfl
  · obtain h | h : (d : Int) = 8 ∨ (d : Int) = 16 := by simpa using hd
    · rw [h]; rfl
    · rw [h]; rfl
theorem read_text (m : Mu) (t : ByteArray) : ∀ (l : List Fd) (A : List UInt8) (s : Rs), t.data.toList = A ++ l.flatMap (fieldB m) → s.at_ = A.length → s.fell = 0 → (∀ f ∈ l, fineF f ∧ chkF m f = 0) → lastB l →
    (l.foldl (readF t) s).at_ = t.size ∧ (l.foldl (readF t) s).fell = 0 ∧ (l.foldl (readF t) s).m = l.foldl (copyF m) s.m
  | [], A, s, h, ha, hf, _, _ => by
    refine ⟨?_, hf, rfl⟩
    have : t.data.toList.length = t.size := by simp
    rw [List.foldl_nil, ha, ← this, h]
    simp
  | .num i n :: l, A, s, h, ha, hf, hl, hb => by
    obtain ⟨⟨hi, hn⟩, hc⟩ := hl _ (List.mem_cons_self ..)
    rw [List.flatMap_cons] at h
    have hr : 0 ≤ getM m i ∧ getM m i < 256 ^ n := by
      simp only [chkF] at hc
      split at hc
      · cases hc
      · rename_i h1
        have h2 : 0 ≤ getM m i := by omega
        have h3 : getM m i / 2 ^ (8 * n) = 0 := Decidable.not_not.1 fun h4 => h1 (.inr h4)
        refine ⟨h2, ?_⟩
        have h5 : ¬ (2 : Int) ^ (8 * n) ≤ getM m i := fun h6 => (div_zero (k := 8 * n) h2).2 h6 h3
        rw [show (256 : Int) = 2 ^ 8 from rfl, ← Int.pow_mul]
        omega
    obtain ⟨r1, r2, r3⟩ := num_back (t := t) (A := A) h ⟨hn.1, by omega⟩ hr ha.symm
    rw [List.foldl_cons, List.foldl_cons]
    have e : readF t s (.num i n) = ⟨setM s.m i (getM m i), s.at_ + n, 0⟩ := by
      simp only [readF, hf, r1, r2, r3]
    rw [e]
    exact read_text m t l (A ++ putB (getM m i) n) _ (by rw [List.append_assoc]; exact h) (by simp [putB_len, ha]) rfl (fun f hf' => hl f (List.mem_cons_of_mem _ hf')) hb
  | .byt z :: l, A, s, h, ha, hf, hl, hb => by
    obtain rfl : l = [] := hb
    obtain ⟨hz, hc⟩ := hl _ (List.mem_cons_self ..)
    have hin : (m.dat.size : Int) ∈ z := by
      simp only [chkF] at hc
      split at hc
      · assumption
      · cases hc
    rw [List.flatMap_cons, List.flatMap_nil, List.append_nil] at h
    obtain ⟨r1, r2, r3, r4⟩ := byt_back (t := t) (d := m.dat) (A := A) h ha.symm
    have hw := widest_is hz hin
    have e : readF t s (.byt z) = ⟨{ s.m with dat := m.dat }, t.size, 0⟩ := by
      simp only [readF, r4, hw, hf, r1, r2, r3]
    rw [List.foldl_cons, List.foldl_cons, e]
    exact ⟨rfl, rfl, rfl⟩
theorem text_list (m : Mu) : ∀ (l : List Fd) (t0 : ByteArray), (l.foldl (putF m) t0).data.toList = t0.data.toList ++ l.flatMap (fieldB m)
  | [], t0 => by simp
  | f :: l, t0 => by
    rw [List.foldl_cons, text_list m l, List.flatMap_cons, ← List.append_assoc]
    congr 1
    cases f with
    | num i s => simp [putF, catB, fieldB]
    | byt z => simp [putF, fieldB, ByteArray.data_append]
theorem fields_fine {k : Int} {l : List Fd} (h : fieldsO k = some l) : (∀ f ∈ l, fineF f) ∧ lastB l := by
  have hk := kinds (k := k) (by rw [h]; simp)
  rcases hk with rfl | rfl | rfl | rfl | rfl | rfl | rfl | rfl | rfl | rfl | rfl <;>
  · simp +decide only [fieldsO, if_true, if_false, reduceIte, Option.some.injEq] at h
    subst h
    refine ⟨?_, by simp [lastB]⟩
    intro f hf
    simp only [List.mem_cons, List.not_mem_nil, or_false] at hf
    rcases hf with rfl | rfl | rfl <;> simp [fineF]
theorem chk_all {m : Mu} : ∀ {l : List Fd}, chkL m l = 0 → ∀ f ∈ l, chkF m f = 0
  | [], _, f, hf => by cases hf
  | g :: l, h, f, hf => by
    simp only [chkL] at h
    split at h
    · rename_i h0
      rcases List.mem_cons.1 hf with rfl | hf
      · exact h0
      · exact chk_all h f hf
    · rename_i h0
      exact absurd h h0
theorem copy_all {m : Mu} {l : List Fd} (hf : fieldsO m.kind = some l) (hz : isZero (spareM m l) = true) : l.foldl (copyF m) { zeroM with kind := m.kind } = m := by
  have hk := kinds (k := m.kind) (by rw [hf]; simp)
  obtain ⟨kind, addr, prio, num, token, nonce, dat⟩ := m
  simp only at hf hk
  have hd : dat.size = 0 → dat = ⟨#[]⟩ := fun h => by
    apply ByteArray.ext
    apply Array.toList_inj.1
    exact List.eq_nil_of_length_eq_zero (by simpa using h)
  rcases hk with rfl | rfl | rfl | rfl | rfl | rfl | rfl | rfl | rfl | rfl | rfl <;>
  · simp +decide only [fieldsO, if_true, if_false, reduceIte, Option.some.injEq] at hf
    subst hf
    simp +decide only [spareM, List.foldl_cons, List.foldl_nil, blankF, setM, isZero, reduceIte, Bool.and_eq_true, beq_iff_eq] at hz
    simp +decide only [List.foldl_cons, List.foldl_nil, copyF, setM, getM, reduceIte, zeroM, Mu.mk.injEq]
    simp_all
theorem get_back (m : Mu) (hc : checkM m = 0) : ∃ l, fieldsO m.kind = some l ∧ getV 46 (textM m l) = (m, 0) := by
  cases hf : fieldsO m.kind with
  | none => exact absurd hf (check_none hc)
  | some l =>
    refine ⟨l, rfl, ?_⟩
    unfold checkM at hc
    rw [hf] at hc
    simp only [] at hc
    obtain ⟨hc1, hz⟩ : chkL m l = 0 ∧ isZero (spareM m l) = true := by
      split at hc
      · rename_i h1
        split at hc
        · rename_i h2; exact ⟨h1, h2⟩
        · cases hc
      · rename_i h1; exact absurd hc h1
    obtain ⟨hfine, hlast⟩ := fields_fine hf
    have ht : (textM m l).data.toList = putB m.kind 1 ++ l.flatMap (fieldB m) := by unfold textM; rw [text_list]; simp [catB]
    have hk := kinds (k := m.kind) (by rw [hf]; simp)
    obtain ⟨r1, r2, r3⟩ := num_back (t := textM m l) (A := []) (C := l.flatMap (fieldB m)) (n := m.kind) (k := 1) ht ⟨by omega, by omega⟩ (by omega) rfl
    have hs : (textM m l).size ≠ 0 := by
      have : (textM m l).data.toList.length = (textM m l).size := by simp
      rw [← this, ht, List.length_append, putB_len]
      omega
    obtain ⟨g1, g2, g3⟩ := read_text m (textM m l) l (putB m.kind 1) ⟨{ zeroM with kind := m.kind }, 1, 0⟩ ht (by simp [putB_len]) rfl (fun f hf' => ⟨hfine f hf', chk_all hc1 f hf'⟩) hlast
    unfold getV
    rw [if_neg (by simp), if_neg hs]
    simp only [Int.natCast_one, List.length_nil, Nat.zero_add] at r1 r2 r3
    simp only [r1, r2, r3, hf]
    rw [g1, g2, g3, copy_all hf hz]
    have hd : doneF (textM m l) (textM m l).size 0 = 0 := by unfold doneF; rw [if_neg (by omega)]
    rw [hd, if_pos rfl]
end Go.Proofs.Ytpajedpkdfacoaa.Mp
