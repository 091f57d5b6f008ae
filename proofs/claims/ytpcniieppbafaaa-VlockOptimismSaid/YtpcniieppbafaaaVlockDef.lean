/- Plain arithmetic of package vlock's words: what the operations on an unsigned number come to where it is written as version, death and lock. No program in sight. -/
import Derived.Laws.BitsAllLaws
import Derived.Laws.Entries
import Derived.WalkKit
namespace Go.Proofs.Ytpcniieppbafaaa
namespace Vl
def opn (a : Int) : Bool := bits BinOp.and IntKind.u64 a 3 == 0
def lkd (a : Int) : Bool := bits BinOp.and IntKind.u64 a 1 != 0
def ded (a : Int) : Bool := bits BinOp.and IntKind.u64 a 2 != 0
def lck (a : Int) : Int := bits BinOp.or IntKind.u64 a 1
def ver (a : Int) : Int := IntKind.u64.wrap (a.tdiv 4)
def unl (a : Int) : Int := IntKind.u64.wrap (IntKind.u64.wrap (a - 1) + 4)
def kil0 (a : Int) : Int := bits BinOp.andNot IntKind.u64 a 1
def kil1 (a : Int) : Int := bits BinOp.or IntKind.u64 (IntKind.u64.wrap (bits BinOp.andNot IntKind.u64 a 1 + 4)) 2
def rv (a : Int) : Int := IntKind.u64.wrap (a.tdiv 4)
def rl (a : Int) : Bool := a.tmod 2 == 1
def rd (a : Int) : Bool := (IntKind.u64.wrap (a.tdiv 2)).tmod 2 == 1
def p0 (v : Int) : Int := IntKind.u64.wrap (v.tmod 4611686018427387904 * 4)
def rput (v : Int) (l d : Bool) : Int :=
  if l then (if d then IntKind.u64.wrap (IntKind.u64.wrap (p0 v + 1) + 2) else IntKind.u64.wrap (p0 v + 1))
  else (if d then IntKind.u64.wrap (p0 v + 2) else p0 v)
/-- The word of a version, a death and a lock. -/
def mk (v : Nat) (d l : Bool) : Int := ((4 * v + (if d then 2 else 0) + (if l then 1 else 0) : Nat) : Int)
def top : Nat := 4611686018427387904
def nx (v : Nat) : Nat := (v + 1) % top
theorem nx_lt (v : Nat) : nx v < top := Nat.mod_lt _ (by decide)
def Wd (a : Int) : Prop := ∃ v d l, v < top ∧ a = mk v d l
theorem wd_of (a : Int) (h0 : 0 ≤ a) (h1 : a < 18446744073709551616) : Wd a := by
  obtain ⟨n, rfl⟩ := Int.eq_ofNat_of_zero_le h0
  refine ⟨n / 4, decide (n / 2 % 2 = 1), decide (n % 2 = 1), by unfold top; omega, ?_⟩
  unfold mk
  congr 1
  by_cases a : n / 2 % 2 = 1 <;> by_cases b : n % 2 = 1 <;> simp [a, b] <;> omega
theorem wd_mk (v : Nat) (d l : Bool) (h : v < top) : Wd (mk v d l) := ⟨v, d, l, h, rfl⟩
theorem and_nat (n m : Nat) (h : n < 18446744073709551616) (h' : m < 18446744073709551616) : bits BinOp.and IntKind.u64 (n : Int) (m : Int) = ((n &&& m : Nat) : Int) := u64_and_nat n m h h'
theorem or_even (n : Nat) (h : n % 2 = 0) : n ||| 1 = n + 1 := by
  rw [show n = 2 ^ 1 * (n / 2) by omega, ← Nat.two_pow_add_eq_or_of_lt (by decide)]
theorem or_two (n : Nat) (h : n % 4 = 0) : n ||| 2 = n + 2 := by
  rw [show n = 2 ^ 2 * (n / 4) by omega, ← Nat.two_pow_add_eq_or_of_lt (by decide)]
theorem and_two (n : Nat) : n &&& 2 = n / 2 % 2 * 2 := by
  have h : n &&& 2 = ((n / 2) &&& 1) <<< 1 := by
    apply Nat.eq_of_testBit_eq
    intro i
    rw [Nat.testBit_and, Nat.testBit_shiftLeft]
    rcases i with _ | i
    · simp
    · rw [Nat.testBit_and, Nat.testBit_succ, show (2 : Nat).testBit (i + 1) = (1 : Nat).testBit i from by rw [Nat.testBit_succ]]
      simp
  rw [h, Nat.and_one_is_mod, Nat.shiftLeft_eq]
theorem and_not1 (n : Nat) (h : n < 18446744073709551616) : n &&& 18446744073709551614 = n - n % 2 := by
  have h1 : n &&& 18446744073709551614 = ((n / 2) &&& 9223372036854775807) <<< 1 := by
    apply Nat.eq_of_testBit_eq
    intro i
    rw [Nat.testBit_and, Nat.testBit_shiftLeft]
    rcases i with _ | i
    · simp
    · rw [Nat.testBit_and, Nat.testBit_succ n, Nat.testBit_succ 18446744073709551614]
      simp
  rw [h1, show (9223372036854775807 : Nat) = 2 ^ 63 - 1 by decide, Nat.and_two_pow_sub_one_eq_mod, Nat.shiftLeft_eq, Nat.mod_eq_of_lt (by omega)]
  omega
theorem wrap_nat (n : Nat) (h : n < 18446744073709551616) : IntKind.u64.wrap (n : Int) = (n : Int) := by
  rw [IntKind.wrap_u64]; omega
variable {v : Nat}
theorem opn_mk (d l : Bool) (h : v < top) : opn (mk v d l) = (!d && !l) := by
  have hn : (4 * v + (if d then 2 else 0) + (if l then 1 else 0) : Nat) < 18446744073709551616 := by unfold top at h; cases d <;> cases l <;> simp <;> omega
  unfold opn mk
  rw [show (3 : Int) = ((3 : Nat) : Int) from rfl, and_nat _ _ hn (by decide), show (3 : Nat) = 2 ^ 2 - 1 from rfl, Nat.and_two_pow_sub_one_eq_mod]
  cases d <;> cases l <;> simp <;> omega
theorem lkd_mk (d l : Bool) (h : v < top) : lkd (mk v d l) = l := by
  have hn : (4 * v + (if d then 2 else 0) + (if l then 1 else 0) : Nat) < 18446744073709551616 := by unfold top at h; cases d <;> cases l <;> simp <;> omega
  unfold lkd mk
  rw [show (1 : Int) = ((1 : Nat) : Int) from rfl, and_nat _ _ hn (by decide), Nat.and_one_is_mod]
  cases d <;> cases l <;> simp <;> omega
theorem ded_mk (d l : Bool) (h : v < top) : ded (mk v d l) = d := by
  have hn : (4 * v + (if d then 2 else 0) + (if l then 1 else 0) : Nat) < 18446744073709551616 := by unfold top at h; cases d <;> cases l <;> simp <;> omega
  unfold ded mk
  rw [show (2 : Int) = ((2 : Nat) : Int) from rfl, and_nat _ _ hn (by decide), and_two]
  cases d <;> cases l <;> simp <;> omega
theorem lck_mk (h : v < top) : lck (mk v false false) = mk v false true := by
  unfold top at h
  unfold lck mk
  rw [show (1 : Int) = ((1 : Nat) : Int) from rfl, u64_or_nat _ _ (by simp; omega) (by decide)]
  rw [or_even _ (by simp; omega)]
  simp
theorem ver_mk (d l : Bool) (h : v < top) : ver (mk v d l) = (v : Int) := by
  unfold top at h
  unfold ver mk
  rw [Int.tdiv_eq_ediv_of_nonneg (by omega), IntKind.wrap_u64]
  cases d <;> cases l <;> simp <;> omega
theorem unl_mk (d : Bool) : unl (mk v d true) = mk (nx v) d false := by
  unfold unl mk nx top
  rw [IntKind.wrap_u64, IntKind.wrap_u64]
  cases d <;> simp <;> omega
theorem kil0_mk (l : Bool) (h : v < top) : kil0 (mk v true l) = mk v true false := by
  unfold top at h
  unfold kil0 mk
  rw [show (1 : Int) = ((1 : Nat) : Int) from rfl, u64_andNot_nat _ _ (by cases l <;> simp <;> omega) (by decide), and_not1 _ (by cases l <;> simp <;> omega)]
  cases l <;> simp <;> omega
theorem kil1_mk (l : Bool) (h : v < top) : kil1 (mk v false l) = mk (nx v) true false := by
  unfold top at h
  unfold kil1 mk
  rw [show (1 : Int) = ((1 : Nat) : Int) from rfl, u64_andNot_nat _ _ (by cases l <;> simp <;> omega) (by decide), and_not1 _ (by cases l <;> simp <;> omega)]
  have e : IntKind.u64.wrap ((((4 * v + (if false = true then 2 else 0) + (if l = true then 1 else 0) : Nat) - (4 * v + (if false = true then 2 else 0) + (if l = true then 1 else 0) : Nat) % 2 : Nat) : Int) + 4) = ((4 * nx v : Nat) : Int) := by
    unfold nx top
    rw [IntKind.wrap_u64]
    cases l <;> simp <;> omega
  rw [e, show (2 : Int) = ((2 : Nat) : Int) from rfl, u64_or_nat _ _ (by have := nx_lt v; unfold top at this; omega) (by decide), or_two _ (by omega)]
  simp
theorem rv_mk (d l : Bool) (h : v < top) : rv (mk v d l) = (v : Int) := ver_mk d l h
theorem rl_mk (d l : Bool) : rl (mk v d l) = l := by
  unfold rl mk
  rw [Int.tmod_eq_emod_of_nonneg (by omega)]
  cases d <;> cases l <;> simp <;> omega
theorem rd_mk (d l : Bool) (h : v < top) : rd (mk v d l) = d := by
  unfold top at h
  unfold rd mk
  rw [Int.tdiv_eq_ediv_of_nonneg (by omega), IntKind.wrap_u64, Int.tmod_eq_emod_of_nonneg (by omega)]
  cases d <;> cases l <;> simp <;> omega
theorem p0_nat (n : Nat) : p0 (n : Int) = ((4 * (n % top) : Nat) : Int) := by
  unfold p0 top
  rw [Int.tmod_eq_emod_of_nonneg (by omega), IntKind.wrap_u64]
  omega
theorem rput_mk (n : Nat) (l d : Bool) : rput (n : Int) l d = mk (n % top) d l := by
  have h : n % top < top := Nat.mod_lt _ (by decide)
  unfold rput mk
  rw [p0_nat]
  unfold top at *
  simp only [IntKind.wrap_u64]
  cases d <;> cases l <;> simp <;> omega
theorem mod_top (h : v < top) : v % top = v := Nat.mod_eq_of_lt h
theorem mk_inj {v' : Nat} {d l d' l' : Bool} (h : mk v d l = mk v' d' l') : v = v' ∧ d = d' ∧ l = l' := by
  unfold mk at h
  cases d <;> cases l <;> cases d' <;> cases l' <;> simp at h ⊢ <;> omega
theorem mk_beq {v' : Nat} {d l d' l' : Bool} : (mk v d l == mk v' d' l') = (decide (v = v') && (d == d') && (l == l')) := by
  rw [Bool.eq_iff_iff]
  simp only [beq_iff_eq, Bool.and_eq_true, decide_eq_true_eq]
  exact ⟨fun h => by obtain ⟨a, b, c⟩ := mk_inj h; exact ⟨⟨a, b⟩, c⟩, fun ⟨⟨a, b⟩, c⟩ => by rw [a, b, c]⟩
end Vl
end Go.Proofs.Ytpcniieppbafaaa
