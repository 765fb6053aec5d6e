/- The walk of the document's Check of an option of several paths. -/
import Derived.Test.YtpajedpkdfacoaaMpRef
namespace Go.Proofs.Ytpajedpkdfacoaa.Mp
set_option linter.unusedSimpArgs false
set_option linter.unusedVariables false
open Go Go.RowKit Go.Shelf Go.Proofs.Ytpajedpkdfacoaa Go.Proofs.Ytpajedpkdfacoaa.Octets
attribute [local irreducible] Calls

theorem zip_any (p : Int → Int → Bool) {Z N : List Int} (hZ : Z.length = 7) (hN : N.length = 5) : ((Z.zip N).any fun x => p x.1 x.2) = true ↔ ∃ j, ∃ h : j < 5, p (Z[j]'(by omega)) (N[j]'(by omega)) = true := by
  rw [List.any_eq_true]
  constructor
  · rintro ⟨x, hx, hp⟩
    obtain ⟨j, hj, e⟩ := List.getElem_of_mem hx
    rw [List.getElem_zip] at e
    have hj5 : j < 5 := by rw [List.length_zip] at hj; omega
    refine ⟨j, hj5, ?_⟩
    rw [← e] at hp
    exact hp
  · rintro ⟨j, hj, hp⟩
    have hj' : j < (Z.zip N).length := by rw [List.length_zip]; omega
    refine ⟨(Z.zip N)[j], List.getElem_mem hj', ?_⟩
    rw [List.getElem_zip]
    exact hp
theorem sizes_ok (k : Int) : (sizesM k).length = 7 ∧ ∀ j (h : j < (sizesM k).length), j < 5 → (sizesM k)[j] = 0 ∨ (sizesM k)[j] = 1 ∨ (sizesM k)[j] = 2 ∨ (sizesM k)[j] = 4 ∨ (sizesM k)[j] = 6 := by
  have go : ∀ L : List Int, (L = [0, 0, 0, 0, 4, 32, 32] ∨ L = [1, 0, 4, 4, 0, 0, 0] ∨ L = [0, 0, 0, 0, 0, 8, 16] ∨ L = [0, 0, 0, 0, 6, 0, 0] ∨ L = [0, 0, 0, 0, 0, 32, 32] ∨ L = [0, 0, 0, 0, 2, 0, 0] ∨ L = [1, 0, 0, 0, 4, 0, 0] ∨ L = [1, 1, 0, 0, 4, 0, 0] ∨ L = [0, 0, 0, 0, 4, 0, 0] ∨ L = [0, 0, 0, 0, 1, 0, 0] ∨ L = [0, 0, 0, 0, 0, 0, 0]) →
      L.length = 7 ∧ ∀ j (h : j < L.length), j < 5 → L[j] = 0 ∨ L[j] = 1 ∨ L[j] = 2 ∨ L[j] = 4 ∨ L[j] = 6 := by
    intro L hL
    rcases hL with rfl | rfl | rfl | rfl | rfl | rfl | rfl | rfl | rfl | rfl | rfl <;>
    · refine ⟨rfl, ?_⟩
      intro j h hj
      have : j = 0 ∨ j = 1 ∨ j = 2 ∨ j = 3 ∨ j = 4 := by omega
      rcases this with rfl | rfl | rfl | rfl | rfl <;> simp
  refine go _ ?_
  unfold sizesM
  repeat' split
  all_goals simp
theorem St.re {W w : World} {S0 : Nat → Prop} {l l' : List Asn} (h : St W S0 w l) (e : l = l') : St W S0 w l' := e ▸ h
set_option maxRecDepth 100000 in
set_option maxHeartbeats 2000000 in
theorem rcheck_any (m : Mu) (hd : m.dat.size ≤ 900000000) (w : World) : Calls Try.prog 11 #[.agg (encM m).toArray] w (Ret w (.int .i64 (rcheckM m))) := by
  have H := (St.zero w).alloc (encM m) 23
  have PK := known_any m.kind
  have PS := sizes_any m.kind
  obtain ⟨hZ7, hZ⟩ := sizes_ok m.kind
  obtain ⟨r, hr⟩ : ∃ r, r = rcheckM m := ⟨_, rfl⟩
  rw [← hr]
  unfold rcheckM at hr
  simp only [] at hr
  cases hk : knownM m.kind with
  | false =>
    rw [hk] at PK
    rw [if_pos hk] at hr
    clear hk hZ hZ7 PS
    obtain ⟨kind, addr, prio, num, token, nonce, dat⟩ := m
    unfold encM at *
    simp only [] at PK
    replace H := Lib.hid H; replace PK := Lib.hid PK; replace hr := Lib.hid hr
    go_enter Try.func11, Try.ntmps11
    go_wp2_with fail
    refine Calls.mono (PK.out _) ?_
    rintro e w1 ⟨rfl, hb1⟩
    have z1 := Below.size hb1; try simp only [World.size_alloc, World.size_setCell, World.size_drew] at z1
    have H1 := H.out.thru hb1
    clear PK H
    replace H1 := Lib.hid H1
    go_wp2_with fail
    go_ret
    exact H1.out.ret (by rw [hr.out]; rfl)
  | true =>
    rw [hk] at PK
    rw [if_neg (by rw [hk]; simp)] at hr
    generalize hZe : sizesM m.kind = Z at *
    obtain ⟨kind, addr, prio, num, token, nonce, dat⟩ := m
    obtain ⟨N, hN⟩ : ∃ N, N = numsM ⟨kind, addr, prio, num, token, nonce, dat⟩ := ⟨_, rfl⟩
    have hN5 : N.length = 5 := by rw [hN]; rfl
    rw [← hN] at hr
    have hNe : [Value.int .i64 addr, .int .i64 prio, .int .i64 token, .int .i64 nonce, .int .i64 num] = i64s N := by rw [hN]; rfl
    have zipA := zip_any outR hZ7 hN5
    have zipB := zip_any hadR hZ7 hN5
    simp only [] at PK PS hr
    unfold encM at *
    simp only [] at *
    clear hk hZe hN
    obtain ⟨a0, a1, a2, a3, a4, a5, a6, hZe⟩ : ∃ a0 a1 a2 a3 a4 a5 a6, Z = [a0, a1, a2, a3, a4, a5, a6] := by
      match Z, hZ7 with
      | [a0, a1, a2, a3, a4, a5, a6], _ => exact ⟨a0, a1, a2, a3, a4, a5, a6, rfl⟩
    rw [hZe] at PS
    have hZ' := hZ
    have hZ7' := hZ7
    clear hZ
    simp only [i64s, List.map_cons, List.map_nil] at PS
    replace H := Lib.hid H; replace PK := Lib.hid PK; replace PS := Lib.hid PS; replace hr := Lib.hid hr; replace zipA := Lib.hid zipA; replace zipB := Lib.hid zipB; replace hZ' := Lib.hid hZ'; replace hNe := Lib.hid hNe; replace hZe := Lib.hid hZe
    go_enter Try.func11, Try.ntmps11
    go_wp2_with fail
    refine Calls.mono (PK.out _) ?_
    rintro e w1 ⟨rfl, hb1⟩
    have z1 := Below.size hb1; try simp only [World.size_alloc, World.size_setCell, World.size_drew] at z1
    have H1 := H.out.thru hb1
    obtain ⟨zm1, cm1, fm1⟩ := H1.box 0 rfl
    clear PK H
    replace H1 := Lib.hid H1
    go_wp2_with fail
    refine Calls.mono (PS.out _) ?_
    rintro e w2 ⟨rfl, hb2⟩
    have z2 := Below.size hb2; try simp only [World.size_alloc, World.size_setCell, World.size_drew] at z2
    have H2 := H1.out.thru hb2
    obtain ⟨zm2, cm2, fm2⟩ := H2.box 0 rfl
    clear PS H1 zm1 cm1 fm1
    have H3 := (H2.alloc [.int .i64 a0, .int .i64 a1, .int .i64 a2, .int .i64 a3, .int .i64 a4, .int .i64 a5, .int .i64 a6] 66).alloc [.int .i64 addr, .int .i64 prio, .int .i64 token, .int .i64 nonce, .int .i64 num] 68
    simp only [World.size_alloc] at H3
    have H4 := St.re (l' := [cellA w2.heap.size (i64s Z), cellA (w2.heap.size + 1) (i64s N), cellA w.heap.size [.int .i64 kind, .int .i64 addr, .int .i64 prio, .int .i64 num, .int .i64 token, .int .i64 nonce, .string dat]]) (H3.arrN [1, 0] rfl) (by rw [hZe.out, ← hNe.out]; rfl)
    clear H3 H2
    replace H4 := Lib.hid H4
    go_wp2_with fail
    clear zm2 cm2 fm2
    go_loopg [5] 5 (fun g v5 wr => ∃ j : Nat, j ≤ 5 ∧ Hid (g = 5 - j) ∧ v5 = .int .i64 j ∧ Hid (∀ k (h : k < 5), k < j → outR (Z[k]'(by omega)) (N[k]'(by omega)) = false) ∧ Hid (St w none0 wr [cellA w2.heap.size (i64s Z), cellA (w2.heap.size + 1) (i64s N), cellA w.heap.size [.int .i64 kind, .int .i64 addr, .int .i64 prio, .int .i64 num, .int .i64 token, .int .i64 nonce, .string dat]]))
    case atStart => exact ⟨0, by omega, Lib.hid rfl, rfl, Lib.hid (fun k h h2 => by omega), H4⟩
    case round =>
      obtain ⟨j, hj, hg, rfl, hno, hst⟩ := hrel
      clear H4
      by_cases hlt : j < 5
      · obtain ⟨zz, cz, fz⟩ := hst.out.box 0 rfl
        obtain ⟨zn, cn, fn⟩ := hst.out.box 1 rfl
        have hjZ : j < Z.length := by omega
        have hjN : j < N.length := by omega
        have ez := i64_at cz hjZ
        have en := i64_at cn hjN
        have hz := hZ'.out j hjZ hlt
        have hbad : outR Z[j] N[j] = true → r = 3 := fun h => by rw [hr.out, if_pos (zipA.out.2 ⟨j, hlt, h⟩)]
        have hnx : outR Z[j] N[j] = false → ∀ k (h : k < 5), k < j + 1 → outR (Z[k]'(by omega)) (N[k]'(by omega)) = false := fun h0 k hk h1 => by
          by_cases e : k = j
          · subst e; exact h0
          · exact hno.out k hk (by omega)
        have hlt' : (j : Int) < 5 := by omega
        clear cz cn
        generalize Z[j] = z at ez hz hbad hnx
        generalize N[j] = n at en hbad hnx
        rcases hz with rfl | rfl | rfl | rfl | rfl
        · replace hno := hnx (outR_zero n)
          clear hbad hnx
          replace hno := Lib.hid hno
          go_wp2_with fail
          refine wp_region_near (by kernel_rfl) (by kernel_rfl) ?_
          intro hs
          repeat (go_big_quiet_step (fail))
          refine wpQuiet_nil ?_
          clear hs
          intro w5 hb5
          have H5 := hst.out.thru hb5
          clear hst
          replace H5 := Lib.hid H5
          go_wp2_with fail
          go_roundg (5 - (j + 1))
          case measure => have := hg.out; omega
          case rel => exact ⟨j + 1, by omega, Lib.hid rfl, by go_num, hno, H5⟩
        · have ho : outR 1 n = (decide (n < 0) || decide (256 ≤ n)) := rfl
          by_cases h1 : n < 0
          · have q1 : decide (n < 0) = true := decide_eq_true h1
            rw [q1, Bool.true_or] at ho
            have hrj := Lib.hid (hbad ho)
            clear hbad hnx ho h1
            clear hno
            go_wp2_with fail
            refine wp_region_near (by kernel_rfl) (by kernel_rfl) ?_
            intro hs
            repeat (go_big_quiet_step (fail))
            refine wpQuiet_nil ?_
            clear hs
            intro w5 hb5
            have H5 := hst.out.thru hb5
            clear hst
            replace H5 := Lib.hid H5
            go_wp2_with fail
            go_ret
            exact H5.out.ret (by rw [hrj.out]; rfl)
          · have q1 : decide (n < 0) = false := decide_eq_false h1
            by_cases h2 : (256 : Int) ≤ n
            · have q2 : decide ((256 : Int) ≤ n) = true := decide_eq_true h2
              rw [q1, q2, Bool.false_or] at ho
              have hrj := Lib.hid (hbad ho)
              clear hbad hnx ho h1 h2
              clear hno
              go_wp2_with fail
              refine wp_region_near (by kernel_rfl) (by kernel_rfl) ?_
              intro hs
              repeat (go_big_quiet_step (fail))
              refine wpQuiet_nil ?_
              clear hs
              intro w5 hb5
              have H5 := hst.out.thru hb5
              clear hst
              replace H5 := Lib.hid H5
              go_wp2_with fail
              go_ret
              exact H5.out.ret (by rw [hrj.out]; rfl)
            · have q2 : decide ((256 : Int) ≤ n) = false := decide_eq_false h2
              rw [q1, q2, Bool.false_or] at ho
              replace hno := hnx ho
              clear hbad hnx ho h1 h2
              replace hno := Lib.hid hno
              go_wp2_with fail
              refine wp_region_near (by kernel_rfl) (by kernel_rfl) ?_
              intro hs
              repeat (go_big_quiet_step (fail))
              refine wpQuiet_nil ?_
              clear hs
              intro w5 hb5
              have H5 := hst.out.thru hb5
              clear hst
              replace H5 := Lib.hid H5
              go_wp2_with fail
              go_roundg (5 - (j + 1))
              case measure => have := hg.out; omega
              case rel => exact ⟨j + 1, by omega, Lib.hid rfl, by go_num, hno, H5⟩
        · have ho : outR 2 n = (decide (n < 0) || decide (65536 ≤ n)) := rfl
          by_cases h1 : n < 0
          · have q1 : decide (n < 0) = true := decide_eq_true h1
            rw [q1, Bool.true_or] at ho
            have hrj := Lib.hid (hbad ho)
            clear hbad hnx ho h1
            clear hno
            go_wp2_with fail
            refine wp_region_near (by kernel_rfl) (by kernel_rfl) ?_
            intro hs
            repeat (go_big_quiet_step (fail))
            refine wpQuiet_nil ?_
            clear hs
            intro w5 hb5
            have H5 := hst.out.thru hb5
            clear hst
            replace H5 := Lib.hid H5
            go_wp2_with fail
            go_ret
            exact H5.out.ret (by rw [hrj.out]; rfl)
          · have q1 : decide (n < 0) = false := decide_eq_false h1
            by_cases h2 : (65536 : Int) ≤ n
            · have q2 : decide ((65536 : Int) ≤ n) = true := decide_eq_true h2
              rw [q1, q2, Bool.false_or] at ho
              have hrj := Lib.hid (hbad ho)
              clear hbad hnx ho h1 h2
              clear hno
              go_wp2_with fail
              refine wp_region_near (by kernel_rfl) (by kernel_rfl) ?_
              intro hs
              repeat (go_big_quiet_step (fail))
              refine wpQuiet_nil ?_
              clear hs
              intro w5 hb5
              have H5 := hst.out.thru hb5
              clear hst
              replace H5 := Lib.hid H5
              go_wp2_with fail
              go_ret
              exact H5.out.ret (by rw [hrj.out]; rfl)
            · have q2 : decide ((65536 : Int) ≤ n) = false := decide_eq_false h2
              rw [q1, q2, Bool.false_or] at ho
              replace hno := hnx ho
              clear hbad hnx ho h1 h2
              replace hno := Lib.hid hno
              go_wp2_with fail
              refine wp_region_near (by kernel_rfl) (by kernel_rfl) ?_
              intro hs
              repeat (go_big_quiet_step (fail))
              refine wpQuiet_nil ?_
              clear hs
              intro w5 hb5
              have H5 := hst.out.thru hb5
              clear hst
              replace H5 := Lib.hid H5
              go_wp2_with fail
              go_roundg (5 - (j + 1))
              case measure => have := hg.out; omega
              case rel => exact ⟨j + 1, by omega, Lib.hid rfl, by go_num, hno, H5⟩
        · have ho : outR 4 n = (decide (n < 0) || decide (4294967296 ≤ n)) := rfl
          by_cases h1 : n < 0
          · have q1 : decide (n < 0) = true := decide_eq_true h1
            rw [q1, Bool.true_or] at ho
            have hrj := Lib.hid (hbad ho)
            clear hbad hnx ho h1
            clear hno
            go_wp2_with fail
            refine wp_region_near (by kernel_rfl) (by kernel_rfl) ?_
            intro hs
            repeat (go_big_quiet_step (fail))
            refine wpQuiet_nil ?_
            clear hs
            intro w5 hb5
            have H5 := hst.out.thru hb5
            clear hst
            replace H5 := Lib.hid H5
            go_wp2_with fail
            go_ret
            exact H5.out.ret (by rw [hrj.out]; rfl)
          · have q1 : decide (n < 0) = false := decide_eq_false h1
            by_cases h2 : (4294967296 : Int) ≤ n
            · have q2 : decide ((4294967296 : Int) ≤ n) = true := decide_eq_true h2
              rw [q1, q2, Bool.false_or] at ho
              have hrj := Lib.hid (hbad ho)
              clear hbad hnx ho h1 h2
              clear hno
              go_wp2_with fail
              refine wp_region_near (by kernel_rfl) (by kernel_rfl) ?_
              intro hs
              repeat (go_big_quiet_step (fail))
              refine wpQuiet_nil ?_
              clear hs
              intro w5 hb5
              have H5 := hst.out.thru hb5
              clear hst
              replace H5 := Lib.hid H5
              go_wp2_with fail
              go_ret
              exact H5.out.ret (by rw [hrj.out]; rfl)
            · have q2 : decide ((4294967296 : Int) ≤ n) = false := decide_eq_false h2
              rw [q1, q2, Bool.false_or] at ho
              replace hno := hnx ho
              clear hbad hnx ho h1 h2
              replace hno := Lib.hid hno
              go_wp2_with fail
              refine wp_region_near (by kernel_rfl) (by kernel_rfl) ?_
              intro hs
              repeat (go_big_quiet_step (fail))
              refine wpQuiet_nil ?_
              clear hs
              intro w5 hb5
              have H5 := hst.out.thru hb5
              clear hst
              replace H5 := Lib.hid H5
              go_wp2_with fail
              go_roundg (5 - (j + 1))
              case measure => have := hg.out; omega
              case rel => exact ⟨j + 1, by omega, Lib.hid rfl, by go_num, hno, H5⟩
        · have ho : outR 6 n = (decide (n < 0) || decide (281474976710656 ≤ n)) := rfl
          by_cases h1 : n < 0
          · have q1 : decide (n < 0) = true := decide_eq_true h1
            rw [q1, Bool.true_or] at ho
            have hrj := Lib.hid (hbad ho)
            clear hbad hnx ho h1
            clear hno
            go_wp2_with fail
            refine wp_region_near (by kernel_rfl) (by kernel_rfl) ?_
            intro hs
            repeat (go_big_quiet_step (fail))
            refine wpQuiet_nil ?_
            clear hs
            intro w5 hb5
            have H5 := hst.out.thru hb5
            clear hst
            replace H5 := Lib.hid H5
            go_wp2_with fail
            go_ret
            exact H5.out.ret (by rw [hrj.out]; rfl)
          · have q1 : decide (n < 0) = false := decide_eq_false h1
            by_cases h2 : (281474976710656 : Int) ≤ n
            · have q2 : decide ((281474976710656 : Int) ≤ n) = true := decide_eq_true h2
              rw [q1, q2, Bool.false_or] at ho
              have hrj := Lib.hid (hbad ho)
              clear hbad hnx ho h1 h2
              clear hno
              go_wp2_with fail
              refine wp_region_near (by kernel_rfl) (by kernel_rfl) ?_
              intro hs
              repeat (go_big_quiet_step (fail))
              refine wpQuiet_nil ?_
              clear hs
              intro w5 hb5
              have H5 := hst.out.thru hb5
              clear hst
              replace H5 := Lib.hid H5
              go_wp2_with fail
              go_ret
              exact H5.out.ret (by rw [hrj.out]; rfl)
            · have q2 : decide ((281474976710656 : Int) ≤ n) = false := decide_eq_false h2
              rw [q1, q2, Bool.false_or] at ho
              replace hno := hnx ho
              clear hbad hnx ho h1 h2
              replace hno := Lib.hid hno
              go_wp2_with fail
              refine wp_region_near (by kernel_rfl) (by kernel_rfl) ?_
              intro hs
              repeat (go_big_quiet_step (fail))
              refine wpQuiet_nil ?_
              clear hs
              intro w5 hb5
              have H5 := hst.out.thru hb5
              clear hst
              replace H5 := Lib.hid H5
              go_wp2_with fail
              go_roundg (5 - (j + 1))
              case measure => have := hg.out; omega
              case rel => exact ⟨j + 1, by omega, Lib.hid rfl, by go_num, hno, H5⟩
      · have hlt' : ¬ (j : Int) < 5 := by omega
        have hany : ((Z.zip N).any fun p => outR p.1 p.2) = false := by
          rw [Bool.eq_false_iff]
          intro h
          obtain ⟨k, hk, h1⟩ := zipA.out.1 h
          rw [hno.out k hk (by omega)] at h1
          cases h1
        have hr2 := hr.out
        rw [hany, if_neg (by simp)] at hr2
        have g6 : Z.getD 6 0 = a6 := by rw [hZe.out]; rfl
        have g5 : Z.getD 5 0 = a5 := by rw [hZe.out]; rfl
        rw [g6, g5] at hr2
        clear hr hany zipA hno g5 g6
        obtain ⟨zz, cz, fz⟩ := hst.out.box 0 rfl
        have c6 := (cz 6).trans (show (i64s Z)[6]? = some (.int .i64 a6) by rw [hZe.out]; rfl)
        have c5 := (cz 5).trans (show (i64s Z)[5]? = some (.int .i64 a5) by rw [hZe.out]; rfl)
        obtain ⟨zm, cm, fm⟩ := hst.out.box 2 rfl
        clear cz
        by_cases p1 : 0 < a6
        · have q1 : decide (0 < a6) = true := decide_eq_true p1
          by_cases p2 : (dat.size : Int) = a5
          · have q2 : ((dat.size : Int) != a5) = false := by simpa using p2
            rw [if_neg (fun h => h.2.1 p2)] at hr2
            clear p2
            replace hr2 := Lib.hid hr2; replace p1 := Lib.hid p1
            go_wp2_with fail
            clear zm cm fm zz fz c5 c6
            go_loopg [6] 5 (fun g v6 wr => ∃ j : Nat, j ≤ 5 ∧ Hid (g = 5 - j) ∧ v6 = .int .i64 j ∧ Hid (∀ k (h : k < 5), k < j → hadR (Z[k]'(by omega)) (N[k]'(by omega)) = false) ∧ Hid (St w none0 wr [cellA w2.heap.size (i64s Z), cellA (w2.heap.size + 1) (i64s N), cellA w.heap.size [.int .i64 kind, .int .i64 addr, .int .i64 prio, .int .i64 num, .int .i64 token, .int .i64 nonce, .string dat]]))
            case atStart => exact ⟨0, by omega, Lib.hid rfl, rfl, Lib.hid (fun k h h2 => by omega), hst⟩
            case round =>
              clear hst hlt' hlt hg hj
              obtain ⟨j, hj, hg, rfl, hno, hst⟩ := hrel
              by_cases hlt : j < 5
              · obtain ⟨zz, cz, fz⟩ := hst.out.box 0 rfl
                obtain ⟨zn, cn, fn⟩ := hst.out.box 1 rfl
                have hjZ : j < Z.length := by omega
                have hjN : j < N.length := by omega
                have ez := i64_at cz hjZ
                have en := i64_at cn hjN
                have hbad : hadR Z[j] N[j] = true → r = 4 := fun h => by rw [hr2.out, if_pos (zipB.out.2 ⟨j, hlt, h⟩)]
                have hnx : hadR Z[j] N[j] = false → ∀ k (h : k < 5), k < j + 1 → hadR (Z[k]'(by omega)) (N[k]'(by omega)) = false := fun h0 k hk h1 => by
                  by_cases e : k = j
                  · subst e; exact h0
                  · exact hno.out k hk (by omega)
                have hlt' : (j : Int) < 5 := by omega
                clear cz cn
                generalize Z[j] = z at ez hbad hnx
                generalize N[j] = n at en hbad hnx
                by_cases hz : z = 0
                · subst hz
                  by_cases hn : n = 0
                  · subst hn
                    replace hno := hnx rfl
                    clear hbad hnx
                    replace hno := Lib.hid hno
                    go_wp2_with fail
                    go_roundg (5 - (j + 1))
                    case measure => have := hg.out; omega
                    case rel => exact ⟨j + 1, by omega, Lib.hid rfl, by go_num, hno, hst⟩
                  · have q8 : (n != 0) = true := by simpa using hn
                    have q9 : decide (n = 0) = false := decide_eq_false hn
                    have hrj := Lib.hid (hbad (by unfold hadR; rw [q8]; rfl))
                    clear hbad hnx hn hno
                    go_wp2_with fail
                    go_ret
                    exact hst.out.ret (by rw [hrj.out]; rfl)
                · have q8 : (z == 0) = false := by simpa using hz
                  have q9 : decide (z = 0) = false := decide_eq_false hz
                  replace hno := hnx (by unfold hadR; rw [q8]; rfl)
                  clear hbad hnx hz
                  replace hno := Lib.hid hno
                  go_wp2_with fail
                  go_roundg (5 - (j + 1))
                  case measure => have := hg.out; omega
                  case rel => exact ⟨j + 1, by omega, Lib.hid rfl, by go_num, hno, hst⟩
              · have hlt' : ¬ (j : Int) < 5 := by omega
                have hany : ((Z.zip N).any fun p => hadR p.1 p.2) = false := by
                  rw [Bool.eq_false_iff]
                  intro h
                  obtain ⟨k, hk, h1⟩ := zipB.out.1 h
                  rw [hno.out k hk (by omega)] at h1
                  cases h1
                replace hr2 := hr2.out
                rw [hany, if_neg (by simp)] at hr2
                clear hany hno
                obtain ⟨zz, cz, fz⟩ := hst.out.box 0 rfl
                have c6 := (cz 6).trans (show (i64s Z)[6]? = some (.int .i64 a6) by rw [hZe.out]; rfl)
                obtain ⟨zm, cm, fm⟩ := hst.out.box 2 rfl
                clear cz
                by_cases p4 : a6 = 0
                · have q4 : (a6 == 0) = true := by simpa using p4
                  have q4' : decide (a6 = 0) = true := decide_eq_true p4
                  by_cases p5 : dat.size = 0
                  · have q5 : dat.toList.isEmpty = true := by rw [(toList_nil dat).2 p5]; rfl
                    have q6 : dat.toList = [] := (toList_nil dat).2 p5
                    rw [if_neg (fun h => h.2 p5)] at hr2
                    clear p4 p5
                    replace hr2 := Lib.hid hr2
                    go_wp2_with fail
                    go_ret
                    exact hst.out.ret (by rw [hr2.out]; rfl)
                  · have q5 : dat.toList.isEmpty = false := by
                      cases hq : dat.toList with
                      | nil => exact absurd ((toList_nil dat).1 hq) p5
                      | cons a b => rfl
                    rw [if_pos ⟨p4, p5⟩] at hr2
                    clear p4 p5
                    replace hr2 := Lib.hid hr2
                    go_wp2_with fail
                    go_ret
                    exact hst.out.ret (by rw [hr2.out]; rfl)
                · have q4 : (a6 == 0) = false := by simpa using p4
                  have q4' : decide (a6 = 0) = false := decide_eq_false p4
                  rw [if_neg (fun h => p4 h.1)] at hr2
                  clear p4
                  replace hr2 := Lib.hid hr2
                  go_wp2_with fail
                  go_ret
                  exact hst.out.ret (by rw [hr2.out]; rfl)
          · have q2 : ((dat.size : Int) != a5) = true := by simpa using p2
            by_cases p3 : (dat.size : Int) = a6
            · have q3 : ((dat.size : Int) != a6) = false := by simpa using p3
              rw [if_neg (fun h => h.2.2 p3)] at hr2
              clear p2 p3
              replace hr2 := Lib.hid hr2; replace p1 := Lib.hid p1
              go_wp2_with fail
              clear zm cm fm zz fz c5 c6
              go_loopg [6] 5 (fun g v6 wr => ∃ j : Nat, j ≤ 5 ∧ Hid (g = 5 - j) ∧ v6 = .int .i64 j ∧ Hid (∀ k (h : k < 5), k < j → hadR (Z[k]'(by omega)) (N[k]'(by omega)) = false) ∧ Hid (St w none0 wr [cellA w2.heap.size (i64s Z), cellA (w2.heap.size + 1) (i64s N), cellA w.heap.size [.int .i64 kind, .int .i64 addr, .int .i64 prio, .int .i64 num, .int .i64 token, .int .i64 nonce, .string dat]]))
              case atStart => exact ⟨0, by omega, Lib.hid rfl, rfl, Lib.hid (fun k h h2 => by omega), hst⟩
              case round =>
                clear hst hlt' hlt hg hj
                obtain ⟨j, hj, hg, rfl, hno, hst⟩ := hrel
                by_cases hlt : j < 5
                · obtain ⟨zz, cz, fz⟩ := hst.out.box 0 rfl
                  obtain ⟨zn, cn, fn⟩ := hst.out.box 1 rfl
                  have hjZ : j < Z.length := by omega
                  have hjN : j < N.length := by omega
                  have ez := i64_at cz hjZ
                  have en := i64_at cn hjN
                  have hbad : hadR Z[j] N[j] = true → r = 4 := fun h => by rw [hr2.out, if_pos (zipB.out.2 ⟨j, hlt, h⟩)]
                  have hnx : hadR Z[j] N[j] = false → ∀ k (h : k < 5), k < j + 1 → hadR (Z[k]'(by omega)) (N[k]'(by omega)) = false := fun h0 k hk h1 => by
                    by_cases e : k = j
                    · subst e; exact h0
                    · exact hno.out k hk (by omega)
                  have hlt' : (j : Int) < 5 := by omega
                  clear cz cn
                  generalize Z[j] = z at ez hbad hnx
                  generalize N[j] = n at en hbad hnx
                  by_cases hz : z = 0
                  · subst hz
                    by_cases hn : n = 0
                    · subst hn
                      replace hno := hnx rfl
                      clear hbad hnx
                      replace hno := Lib.hid hno
                      go_wp2_with fail
                      go_roundg (5 - (j + 1))
                      case measure => have := hg.out; omega
                      case rel => exact ⟨j + 1, by omega, Lib.hid rfl, by go_num, hno, hst⟩
                    · have q8 : (n != 0) = true := by simpa using hn
                      have q9 : decide (n = 0) = false := decide_eq_false hn
                      have hrj := Lib.hid (hbad (by unfold hadR; rw [q8]; rfl))
                      clear hbad hnx hn hno
                      go_wp2_with fail
                      go_ret
                      exact hst.out.ret (by rw [hrj.out]; rfl)
                  · have q8 : (z == 0) = false := by simpa using hz
                    have q9 : decide (z = 0) = false := decide_eq_false hz
                    replace hno := hnx (by unfold hadR; rw [q8]; rfl)
                    clear hbad hnx hz
                    replace hno := Lib.hid hno
                    go_wp2_with fail
                    go_roundg (5 - (j + 1))
                    case measure => have := hg.out; omega
                    case rel => exact ⟨j + 1, by omega, Lib.hid rfl, by go_num, hno, hst⟩
                · have hlt' : ¬ (j : Int) < 5 := by omega
                  have hany : ((Z.zip N).any fun p => hadR p.1 p.2) = false := by
                    rw [Bool.eq_false_iff]
                    intro h
                    obtain ⟨k, hk, h1⟩ := zipB.out.1 h
                    rw [hno.out k hk (by omega)] at h1
                    cases h1
                  replace hr2 := hr2.out
                  rw [hany, if_neg (by simp)] at hr2
                  clear hany hno
                  obtain ⟨zz, cz, fz⟩ := hst.out.box 0 rfl
                  have c6 := (cz 6).trans (show (i64s Z)[6]? = some (.int .i64 a6) by rw [hZe.out]; rfl)
                  obtain ⟨zm, cm, fm⟩ := hst.out.box 2 rfl
                  clear cz
                  by_cases p4 : a6 = 0
                  · have q4 : (a6 == 0) = true := by simpa using p4
                    have q4' : decide (a6 = 0) = true := decide_eq_true p4
                    by_cases p5 : dat.size = 0
                    · have q5 : dat.toList.isEmpty = true := by rw [(toList_nil dat).2 p5]; rfl
                      have q6 : dat.toList = [] := (toList_nil dat).2 p5
                      rw [if_neg (fun h => h.2 p5)] at hr2
                      clear p4 p5
                      replace hr2 := Lib.hid hr2
                      go_wp2_with fail
                      go_ret
                      exact hst.out.ret (by rw [hr2.out]; rfl)
                    · have q5 : dat.toList.isEmpty = false := by
                        cases hq : dat.toList with
                        | nil => exact absurd ((toList_nil dat).1 hq) p5
                        | cons a b => rfl
                      rw [if_pos ⟨p4, p5⟩] at hr2
                      clear p4 p5
                      replace hr2 := Lib.hid hr2
                      go_wp2_with fail
                      go_ret
                      exact hst.out.ret (by rw [hr2.out]; rfl)
                  · have q4 : (a6 == 0) = false := by simpa using p4
                    have q4' : decide (a6 = 0) = false := decide_eq_false p4
                    rw [if_neg (fun h => p4 h.1)] at hr2
                    clear p4
                    replace hr2 := Lib.hid hr2
                    go_wp2_with fail
                    go_ret
                    exact hst.out.ret (by rw [hr2.out]; rfl)
            · have q3 : ((dat.size : Int) != a6) = true := by simpa using p3
              rw [if_pos ⟨p1, p2, p3⟩] at hr2
              clear p1 p2 p3
              replace hr2 := Lib.hid hr2
              go_wp2_with fail
              go_ret
              exact hst.out.ret (by rw [hr2.out]; rfl)
        · have q1 : decide (0 < a6) = false := decide_eq_false p1
          rw [if_neg (fun h => p1 h.1)] at hr2
          replace hr2 := Lib.hid hr2; replace p1 := Lib.hid p1
          go_wp2_with fail
          clear zm cm fm zz fz c5 c6
          go_loopg [6] 5 (fun g v6 wr => ∃ j : Nat, j ≤ 5 ∧ Hid (g = 5 - j) ∧ v6 = .int .i64 j ∧ Hid (∀ k (h : k < 5), k < j → hadR (Z[k]'(by omega)) (N[k]'(by omega)) = false) ∧ Hid (St w none0 wr [cellA w2.heap.size (i64s Z), cellA (w2.heap.size + 1) (i64s N), cellA w.heap.size [.int .i64 kind, .int .i64 addr, .int .i64 prio, .int .i64 num, .int .i64 token, .int .i64 nonce, .string dat]]))
          case atStart => exact ⟨0, by omega, Lib.hid rfl, rfl, Lib.hid (fun k h h2 => by omega), hst⟩
          case round =>
            clear hst hlt' hlt hg hj
            obtain ⟨j, hj, hg, rfl, hno, hst⟩ := hrel
            by_cases hlt : j < 5
            · obtain ⟨zz, cz, fz⟩ := hst.out.box 0 rfl
              obtain ⟨zn, cn, fn⟩ := hst.out.box 1 rfl
              have hjZ : j < Z.length := by omega
              have hjN : j < N.length := by omega
              have ez := i64_at cz hjZ
              have en := i64_at cn hjN
              have hbad : hadR Z[j] N[j] = true → r = 4 := fun h => by rw [hr2.out, if_pos (zipB.out.2 ⟨j, hlt, h⟩)]
              have hnx : hadR Z[j] N[j] = false → ∀ k (h : k < 5), k < j + 1 → hadR (Z[k]'(by omega)) (N[k]'(by omega)) = false := fun h0 k hk h1 => by
                by_cases e : k = j
                · subst e; exact h0
                · exact hno.out k hk (by omega)
              have hlt' : (j : Int) < 5 := by omega
              clear cz cn
              generalize Z[j] = z at ez hbad hnx
              generalize N[j] = n at en hbad hnx
              by_cases hz : z = 0
              · subst hz
                by_cases hn : n = 0
                · subst hn
                  replace hno := hnx rfl
                  clear hbad hnx
                  replace hno := Lib.hid hno
                  go_wp2_with fail
                  go_roundg (5 - (j + 1))
                  case measure => have := hg.out; omega
                  case rel => exact ⟨j + 1, by omega, Lib.hid rfl, by go_num, hno, hst⟩
                · have q8 : (n != 0) = true := by simpa using hn
                  have q9 : decide (n = 0) = false := decide_eq_false hn
                  have hrj := Lib.hid (hbad (by unfold hadR; rw [q8]; rfl))
                  clear hbad hnx hn hno
                  go_wp2_with fail
                  go_ret
                  exact hst.out.ret (by rw [hrj.out]; rfl)
              · have q8 : (z == 0) = false := by simpa using hz
                have q9 : decide (z = 0) = false := decide_eq_false hz
                replace hno := hnx (by unfold hadR; rw [q8]; rfl)
                clear hbad hnx hz
                replace hno := Lib.hid hno
                go_wp2_with fail
                go_roundg (5 - (j + 1))
                case measure => have := hg.out; omega
                case rel => exact ⟨j + 1, by omega, Lib.hid rfl, by go_num, hno, hst⟩
            · have hlt' : ¬ (j : Int) < 5 := by omega
              have hany : ((Z.zip N).any fun p => hadR p.1 p.2) = false := by
                rw [Bool.eq_false_iff]
                intro h
                obtain ⟨k, hk, h1⟩ := zipB.out.1 h
                rw [hno.out k hk (by omega)] at h1
                cases h1
              replace hr2 := hr2.out
              rw [hany, if_neg (by simp)] at hr2
              clear hany hno
              obtain ⟨zz, cz, fz⟩ := hst.out.box 0 rfl
              have c6 := (cz 6).trans (show (i64s Z)[6]? = some (.int .i64 a6) by rw [hZe.out]; rfl)
              obtain ⟨zm, cm, fm⟩ := hst.out.box 2 rfl
              clear cz
              by_cases p4 : a6 = 0
              · have q4 : (a6 == 0) = true := by simpa using p4
                have q4' : decide (a6 = 0) = true := decide_eq_true p4
                by_cases p5 : dat.size = 0
                · have q5 : dat.toList.isEmpty = true := by rw [(toList_nil dat).2 p5]; rfl
                  have q6 : dat.toList = [] := (toList_nil dat).2 p5
                  rw [if_neg (fun h => h.2 p5)] at hr2
                  clear p4 p5
                  replace hr2 := Lib.hid hr2
                  go_wp2_with fail
                  go_ret
                  exact hst.out.ret (by rw [hr2.out]; rfl)
                · have q5 : dat.toList.isEmpty = false := by
                    cases hq : dat.toList with
                    | nil => exact absurd ((toList_nil dat).1 hq) p5
                    | cons a b => rfl
                  rw [if_pos ⟨p4, p5⟩] at hr2
                  clear p4 p5
                  replace hr2 := Lib.hid hr2
                  go_wp2_with fail
                  go_ret
                  exact hst.out.ret (by rw [hr2.out]; rfl)
              · have q4 : (a6 == 0) = false := by simpa using p4
                have q4' : decide (a6 = 0) = false := decide_eq_false p4
                rw [if_neg (fun h => p4 h.1)] at hr2
                clear p4
                replace hr2 := Lib.hid hr2
                go_wp2_with fail
                go_ret
                exact hst.out.ret (by rw [hr2.out]; rfl)
end Go.Proofs.Ytpajedpkdfacoaa.Mp
