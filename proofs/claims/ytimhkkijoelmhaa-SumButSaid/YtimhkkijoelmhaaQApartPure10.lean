/- Tables turned, and without those who are not asked for: plain laws. No program in sight. -/
import Derived.Test.YtimhkkijoelmhaaQAsks10
namespace Go.Proofs.Ytimhkkijoelmhaa
open Go.RowKit

def rotS (zs : List Sbj) (k : Nat) : List Sbj := zs.drop k ++ zs.take k
theorem rot_perm (zs : List Sbj) (k : Nat) : (rotS zs k).Perm zs := by
  unfold rotS
  have h : (zs.take k ++ zs.drop k).Perm zs := by rw [List.take_append_drop]
  exact List.perm_append_comm.trans h
theorem rot_len (zs : List Sbj) (k : Nat) : (rotS zs k).length = zs.length := (rot_perm zs k).length_eq
theorem rot_get {zs : List Sbj} {n k j : Nat} (hn : zs.length = n) (hk : k < n) (hj : j < n) : (rotS zs k)[j]! = zs[(j + k) % n]! := by
  have hm : (j + k) % n < n := Nat.mod_lt _ (by omega)
  rw [getElem!_pos _ j (by rw [rot_len]; omega), getElem!_pos zs _ (by omega)]
  unfold rotS
  by_cases h : j < n - k
  · have e : (j + k) % n = k + j := by rw [Nat.mod_eq_of_lt (by omega)]; omega
    rw [List.getElem_append_left (by rw [List.length_drop]; omega), List.getElem_drop]
    congr 1
    exact e.symm
  · have e : (j + k) % n = j - (n - k) := by rw [Nat.mod_eq_sub_mod (by omega), Nat.mod_eq_of_lt (by omega)]; omega
    rw [List.getElem_append_right (by rw [List.length_drop]; omega), List.getElem_take]
    congr 1
    rw [List.length_drop, hn]
    exact e.symm
theorem raw_cons (q : Qst) (s : Sbj) (l : List Sbj) : rawN (s :: l) q = cntA s q + rawN l q := by
  rw [show s :: l = [s] ++ l from rfl, raw_append, raw_one]
theorem raw_perm {q : Qst} {l l' : List Sbj} (h : l.Perm l') : rawN l q = rawN l' q := by
  induction h with
  | nil => rfl
  | cons x _ ih => rw [raw_cons, raw_cons, ih]
  | swap x y l => rw [raw_cons, raw_cons, raw_cons, raw_cons]; omega
  | trans _ _ ih1 ih2 => exact ih1.trans ih2
theorem raw_filter (q : Qst) (l : List Sbj) : rawN (l.filter fun s => askedB s q) q = rawN l q := by
  induction l with
  | nil => rfl
  | cons s l ih =>
    rw [List.filter_cons, raw_cons]
    by_cases h : askedB s q = true
    · rw [if_pos h, raw_cons, ih]
    · rw [if_neg h, ih]
      unfold cntA
      rw [if_neg h]
      omega
theorem filt_take {p : Sbj → Bool} {rs : List Sbj} {j : Nat} (hj : j < rs.length) : (rs.take (j + 1)).filter p = (rs.take j).filter p ++ if p rs[j]! = true then [rs[j]!] else [] := by
  rw [List.take_succ_eq_append_getElem hj, List.filter_append, ← getElem!_pos rs j hj]
  generalize rs[j]! = y
  cases h : p y <;> simp [h]
theorem filt_flat {p : Sbj → Bool} {rs : List Sbj} {j : Nat} (hj : j < rs.length) : ((rs.take (j + 1)).filter p).flatMap Sbj.cells = ((rs.take j).filter p).flatMap Sbj.cells ++ if p rs[j]! = true then rs[j]!.cells else [] := by
  rw [filt_take hj, List.flatMap_append]
  split <;> simp
theorem filt_len {p : Sbj → Bool} {rs : List Sbj} {j : Nat} (hj : j < rs.length) : ((rs.take (j + 1)).filter p).length = ((rs.take j).filter p).length + if p rs[j]! = true then 1 else 0 := by
  rw [filt_take hj, List.length_append]
  split <;> simp
/-- Those who are asked for, turned. -/
def someS (zs : List Sbj) (k : Nat) (q : Qst) : List Sbj := (rotS zs k).filter fun s => askedB s q
theorem some_mem {zs : List Sbj} {k : Nat} {q : Qst} : ∀ s ∈ someS zs k q, s ∈ zs := fun _ hs => (rot_perm zs k).mem_iff.1 (List.mem_filter.1 hs).1
theorem some_table {columns : Int} {zs : List Sbj} {k : Nat} {q : Qst} (ht : tableB columns zs = true) : tableB columns (someS zs k q) = true := table_sub (table_perm ht (rot_perm zs k)) (List.filter_sublist)
theorem some_raw (zs : List Sbj) (k : Nat) (q : Qst) : rawN (someS zs k q) q = rawN zs q := by
  unfold someS
  rw [raw_filter, raw_perm (rot_perm zs k)]
theorem some_meets {columns : Int} {zs : List Sbj} {k : Nat} {q : Qst} (ht : tableB columns zs = true) : meetsL (someS zs k q) q = meetsL zs q ∧ (meetsL zs q).length = (someS zs k q).length := by
  have hap := table_apart ht
  have has := table_apart (some_table (k := k) (q := q) ht)
  have e1 : (ordI zs).filter (fun s => askedB s q) = ordI (someS zs k q) := by
    refine ord_eq has ?_ ((ordI_sorted hap).sublist List.filter_sublist)
    unfold someS
    exact ((ordI_perm zs).trans (rot_perm zs k).symm).filter _
  have e2 : (ordI (someS zs k q)).filter (fun s => askedB s q) = ordI (someS zs k q) := by
    rw [List.filter_eq_self]
    intro s hs
    have := (ordI_perm _).mem_iff.1 hs
    unfold someS at this
    exact (List.mem_filter.1 this).2
  unfold meetsL
  rw [e1, e2]
  exact ⟨rfl, by rw [List.length_map, (ordI_perm _).length_eq]⟩
end Go.Proofs.Ytimhkkijoelmhaa
