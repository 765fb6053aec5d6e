/- What holds behind one step of a sift, in plain words. -/
import Derived.Test.YtiaefmmcakagpaaSiftWorks
namespace Go.Proofs.Ytiaefmmcakagpaa.Sift
set_option linter.unusedSimpArgs false
set_option linter.unusedVariables false
open Go.Proofs.Ytiaefmmcakagpaa.DockWait (El placed headV)

def dgN (c : Int) (l : List Dg) : Int := l.foldl (fun _ x => x.1) c
theorem dgN_map (c : Int) (l : List El) : dgN c (l.map dg) = lastN c l := by simp [dgN, lastN, List.foldl_map, dg]
theorem dgN_snoc (c : Int) (l : List Dg) (x : Dg) : dgN c (l ++ [x]) = x.1 := by simp [dgN]
/-- It was put among the first operations up to i. -/
def PutBy (ops : List Op) (i : Nat) (x : Dg) : Prop := ∃ j q, j ≤ i ∧ ops[j]? = some q ∧ q.kind < 3 ∧ q.d = x
structure After (ops : List Op) (i : Nat) (o : Op) (c out inn : Int) (ds : List Dg) (c' : Int) (l' : List El) : Prop where
  ok : Ok c' l'
  len : l'.length ≤ 32
  up : ds.Pairwise fun a b => a.1 < b.1
  gt : ∀ x ∈ ds, c < x.1
  cur : c' = dgN c ds
  cnt : inn = out + ds.length + l'.length
  put : ∀ x ∈ ds, PutBy ops i x
  puts : ∀ x ∈ l', PutBy ops i (dg x)
  due : 3 ≤ o.kind → dueM c' l' o.time = ([], c', l')
  small : ds.length ≤ 100
theorem After.mk' {ops : List Op} {i : Nat} {o : Op} {c out inn : Int} {L : List El} {r : List Dg × Int × List El} {k : Nat} (hO : Ok c L) (hr : Rel c L r k) (hl : r.2.2.length ≤ 32) (hL : L.length ≤ 100) (hc : inn = out + L.length)
    (hp : ∀ x ∈ L, PutBy ops i (dg x)) (hd : 3 ≤ o.kind → dueM r.2.1 r.2.2 o.time = ([], r.2.1, r.2.2)) : After ops i o c out inn r.1 r.2.1 r.2.2 := by
  have hk := hr.le
  refine ⟨hO.rel hr, hl, ?_, ?_, ?_, ?_, ?_, ?_, hd, ?_⟩
  · rw [hr.out, List.pairwise_map]
    exact hO.up.sublist (List.take_sublist _ _)
  · rw [hr.out]
    intro x hx
    obtain ⟨y, hy, rfl⟩ := List.mem_map.1 hx
    exact (hO.mem y (List.mem_of_mem_take hy)).1
  · rw [hr.out, dgN_map, hr.cur]
  · rw [hr.out, hr.rest, hc, List.length_map, List.length_take, List.length_drop]
    omega
  · rw [hr.out]
    intro x hx
    obtain ⟨y, hy, rfl⟩ := List.mem_map.1 hx
    exact hp y (List.mem_of_mem_take hy)
  · rw [hr.rest]
    exact fun x hx => hp x (List.mem_of_mem_drop hx)
  · rw [hr.out, List.length_map, List.length_take]; omega
theorem After.next {ops : List Op} {i : Nat} {o : Op} {c out inn : Int} {ds : List Dg} {c' : Int} {l' : List El} (h : After ops i o c out inn ds c' l') {k : Nat} (hk : k < ds.length) : dgN c (ds.take k) < ds[k].1 := by
  have hu := h.up
  rcases List.eq_nil_or_concat (ds.take k) with e | ⟨t, x, e⟩
  · rw [e]; exact h.gt _ (List.getElem_mem hk)
  · rw [e, List.concat_eq_append, dgN_snoc]
    have hx : x ∈ ds.take k := by rw [e]; simp
    rw [← List.take_append_drop k ds] at hu
    have hy : ds[k] ∈ ds.drop k := List.mem_iff_getElem?.2 ⟨0, by rw [List.getElem?_drop]; simp [hk]⟩
    exact (List.pairwise_append.1 hu).2.2 x hx _ hy
theorem PutBy.more {ops : List Op} {i : Nat} {x : Dg} (h : PutBy ops i x) : PutBy ops (i + 1) x := by
  obtain ⟨j, q, h1, h2, h3, h4⟩ := h
  exact ⟨j, q, by omega, h2, h3, h4⟩
end Go.Proofs.Ytiaefmmcakagpaa.Sift
