/- What the chapter on sums says, in plain functions: tables, questions, who is asked for, and what is printed. No program in sight. -/
import Derived.Test.YtimhkkijoelmhaaBase
namespace Go.Proofs.Ytimhkkijoelmhaa
open Go.RowKit

/-- A subject, as it lies: its values lie in a row of their own. -/
structure Sbj where
  id : Int
  a : Option Addr
  n : Nat
  c : Nat
  vals : List Int
  deriving Inhabited
def Sbj.cells (s : Sbj) : List Value := [.int .i64 s.id, .slice s.a s.n s.c]
def Sbj.val (s : Sbj) : Value := .agg #[.int .i64 s.id, .slice s.a s.n s.c]
theorem Sbj.len (s : Sbj) : s.cells.length = 2 := rfl
/-- A condition. -/
structure Whr where
  col : Int
  lo : Int
  hi : Int
  deriving Inhabited, DecidableEq
def Whr.cells (x : Whr) : List Value := [.int .i64 x.col, .int .i64 x.lo, .int .i64 x.hi]
def Whr.val (x : Whr) : Value := .agg #[.int .i64 x.col, .int .i64 x.lo, .int .i64 x.hi]
theorem Whr.len (x : Whr) : x.cells.length = 3 := rfl
/-- A question, as it lies. -/
structure Qst where
  a : Option Addr
  n : Nat
  c : Nat
  whs : List Whr
  col : Int
  clip : Int
  step : Int
  deriving Inhabited
def Qst.cells (q : Qst) : List Value := [.slice q.a q.n q.c, .int .i64 q.col, .int .i64 q.clip, .int .i64 q.step]
def Qst.val (q : Qst) : Value := .agg #[.slice q.a q.n q.c, .int .i64 q.col, .int .i64 q.clip, .int .i64 q.step]
theorem Qst.len (q : Qst) : q.cells.length = 4 := rfl

/-- n lies from lo to hi. -/
def inB (lo hi n : Int) : Bool := decide (lo ≤ n ∧ n ≤ hi)
theorem inB_not (lo hi n : Int) : (!inB lo hi n) = (decide (n < lo) || decide (hi < n)) := by unfold inB; rw [Bool.eq_iff_iff]; simp
theorem all_inB (lo hi : Int) (zs : List Int) : (!zs.any fun n => !inB lo hi n) = zs.all (inB lo hi) := by
  simp [List.any_eq_not_all_not]

/-- Whether a subject is wrong by itself. -/
def sbjB (columns : Int) (s : Sbj) : Bool := inB 0 999999 s.id && (s.vals.length : Int) == columns && s.vals.all (inB 0 1000000)
/-- Whether a table is wrong at a place. -/
def sbjBad (columns : Int) (l : List Sbj) (j : Nat) : Bool := (l.take j).any (fun x => x.id == l[j]!.id) || !sbjB columns l[j]!
/-- Whether subjects are a table. -/
def tableB (columns : Int) (l : List Sbj) : Bool := inB 1 5 columns && decide (l.length ≤ 16) && !(List.range l.length).any (sbjBad columns l)
def tableN (columns : Int) (l : List Sbj) : Int := if tableB columns l = true then 0 else 100
/-- Whether a condition is valid. -/
def whrB (columns : Int) (x : Whr) : Bool := inB 0 (columns - 1) x.col && (inB 0 1000000 x.lo && inB 0 1000000 x.hi)
/-- Whether a question is valid. -/
def qstB (columns : Int) (q : Qst) : Bool := (if q.col = -1 then q.clip == 1 else inB 0 (columns - 1) q.col && inB 1 1000000 q.clip) && inB 1 1000000 q.step && decide (q.whs.length ≤ 4) && q.whs.all (whrB columns)
/-- Whether a subject is asked for. -/
def askedB (s : Sbj) (q : Qst) : Bool := q.whs.all fun x => inB x.lo x.hi s.vals[x.col.toNat]!
/-- What a subject counts. -/
def cntN (s : Sbj) (q : Qst) : Int := if q.col = -1 then 1 else min s.vals[q.col.toNat]! q.clip
/-- The sum. -/
def rawN (l : List Sbj) (q : Qst) : Int := l.foldl (fun n s => if askedB s q = true then n + cntN s q else n) 0
/-- What is printed, and the bound. -/
def printN (n step : Int) : Int := (2 * n + step) / (2 * step) * step
def boundN (clip step : Int) : Int := (clip + step - 1) / step * step
/-- The error of a table and a question. -/
def askN10 (columns : Int) (l : List Sbj) (q : Qst) : Int := if tableB columns l = true then (if qstB columns q = true then 0 else 101) else 100

theorem rawN_snoc (l : List Sbj) (s : Sbj) (q : Qst) : rawN (l ++ [s]) q = if askedB s q = true then rawN l q + cntN s q else rawN l q := by
  unfold rawN
  rw [List.foldl_append]
  rfl
/-- The rounding of the program. -/
theorem print_mod {n step : Int} (hn : 0 ≤ n) (hs : 0 < step) : (if 2 * (n % step) ≥ step then n - n % step + step else n - n % step) = printN n step := by
  unfold printN
  have h1 := Int.emod_add_mul_ediv n step
  have h2 := Int.emod_nonneg n (show step ≠ 0 by omega)
  have h3 := Int.emod_lt_of_pos n hs
  generalize n % step = r at *
  generalize n / step = d at *
  have hn2 : n = r + step * d := by omega
  subst hn2
  have key : (2 * (r + step * d) + step) / (2 * step) = d + (2 * r + step) / (2 * step) := by
    have : 2 * (r + step * d) + step = (2 * r + step) + 2 * step * d := by rw [Int.mul_add, Int.mul_assoc]; omega
    rw [this, Int.add_mul_ediv_left _ _ (by omega)]
    omega
  rw [key]
  have e : r + step * d - r = step * d := by omega
  rw [e]
  by_cases h : 2 * r ≥ step
  · rw [if_pos h]
    have : (2 * r + step) / (2 * step) = 1 := by
      have a : 2 * step ≤ 2 * r + step := by omega
      have b : 2 * r + step < 2 * step + 2 * step := by omega
      have c := Int.ediv_mul_le (2 * r + step) (show 2 * step ≠ 0 by omega)
      have dd := Int.lt_ediv_add_one_mul_self (2 * r + step) (show 0 < 2 * step by omega)
      have lo : 1 ≤ (2 * r + step) / (2 * step) := (Int.le_ediv_iff_mul_le (by omega)).2 (by omega)
      have hi : (2 * r + step) / (2 * step) < 2 := (Int.ediv_lt_iff_lt_mul (by omega)).2 (by omega)
      omega
    rw [this, Int.add_mul, Int.mul_comm d step]
    omega
  · rw [if_neg h]
    have : (2 * r + step) / (2 * step) = 0 := Int.ediv_eq_zero_of_lt (by omega) (by omega)
    rw [this, Int.add_zero, Int.mul_comm d step]
theorem bound_mul {clip step : Int} (hs : 0 < step) : boundN clip step = (if clip % step = 0 then clip / step * step else clip / step * step + step) := by
  unfold boundN
  have h1 := Int.emod_add_mul_ediv clip step
  have h2 := Int.emod_nonneg clip (show step ≠ 0 by omega)
  have h3 := Int.emod_lt_of_pos clip hs
  generalize clip % step = r at *
  generalize clip / step = d at *
  have hn : clip = r + step * d := by omega
  subst hn
  have e : r + step * d + step - 1 = (r + step - 1) + step * d := by omega
  rw [e, Int.add_mul_ediv_left _ _ (by omega)]
  by_cases h : r = 0
  · rw [if_pos h]
    have : (r + step - 1) / step = 0 := Int.ediv_eq_zero_of_lt (by omega) (by omega)
    rw [this, Int.zero_add]
  · rw [if_neg h]
    have lo : 1 ≤ (r + step - 1) / step := (Int.le_ediv_iff_mul_le hs).2 (by omega)
    have hi : (r + step - 1) / step < 2 := (Int.ediv_lt_iff_lt_mul hs).2 (by omega)
    have : (r + step - 1) / step = 1 := by omega
    rw [this, Int.add_mul]
    omega
/-- Subjects in the order of their Ids. -/
def putI (s : Sbj) : List Sbj → List Sbj
  | [] => [s]
  | x :: r => if s.id < x.id then s :: x :: r else x :: putI s r
def ordI (l : List Sbj) : List Sbj := l.foldl (fun o s => putI s o) []
theorem putI_perm (s : Sbj) (l : List Sbj) : (putI s l).Perm (s :: l) := by
  induction l with
  | nil => exact List.Perm.refl _
  | cons x r ih =>
    unfold putI
    split
    · exact List.Perm.refl _
    · exact (List.Perm.cons x ih).trans (List.Perm.swap s x r)
theorem ordI_perm (l : List Sbj) : (ordI l).Perm l := by
  have key : ∀ (l o : List Sbj), (l.foldl (fun o s => putI s o) o).Perm (o ++ l) := by
    intro l
    induction l with
    | nil => intro o; simp
    | cons s r ih =>
      intro o
      rw [List.foldl_cons]
      refine (ih _).trans ?_
      refine ((putI_perm s o).append_right r).trans ?_
      rw [List.cons_append]
      exact List.perm_middle.symm
  have h := key l []
  rwa [List.nil_append] at h
/-- The Ids of those who are asked for, in order. -/
def meetsL (l : List Sbj) (q : Qst) : List Int := ((ordI l).filter fun s => askedB s q).map Sbj.id
end Go.Proofs.Ytimhkkijoelmhaa
