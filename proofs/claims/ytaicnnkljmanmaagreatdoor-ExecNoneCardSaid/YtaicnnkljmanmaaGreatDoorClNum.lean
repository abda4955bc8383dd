/- The quick numbers and strings are the model's. -/
import Derived.Test.YtaicnnkljmanmaaGreatDoorClComp
import Derived.Laws.Sem
import Derived.Lib.Strings
import GoSem.Dispatch
namespace Go.Cl
open Go

theorem ile_eq (a b : Int) : ile a b = decide (a ≤ b) := by
  rw [Bool.eq_iff_iff]
  cases a <;> cases b <;> simp [ile, Int.negSucc_eq] <;> omega
theorem ieq_eq (a b : Int) : ieq a b = (a == b) := by
  rw [Bool.eq_iff_iff]
  cases a <;> cases b <;> simp [ieq, Int.negSucc_eq] <;> omega
theorem kmin_eq (k : IntKind) : kmin k = k.min := by cases k <;> decide
theorem kmax_eq (k : IntKind) : kmax k = k.max := by cases k <;> decide
theorem modulus_eq (k : IntKind) : modulus k = 2 ^ k.bits := by cases k <;> decide
theorem modulus_int (k : IntKind) : ((modulus k : Nat) : Int) = 2 ^ k.bits := by rw [modulus_eq]; simp
theorem cmod_eq (k : IntKind) (n : Int) : ((cmod k n : Nat) : Int) = n % (2 ^ k.bits : Int) := by
  rw [← modulus_int]
  have hp : 0 < modulus k := by cases k <;> decide
  cases n with
  | ofNat a => exact Int.natCast_emod a (modulus k)
  | negSucc a =>
    show ((modulus k - 1 - a % modulus k : Nat) : Int) = Int.negSucc a % (modulus k : Int)
    have hlt := Nat.mod_lt a hp
    rw [Int.negSucc_emod_ofNat, Int.subNatNat_eq_coe]
    omega
theorem cwrap_eq (k : IntKind) (n : Int) : cwrap k n = k.wrap n := by
  unfold cwrap
  rw [ile_eq, ile_eq, kmin_eq, kmax_eq]
  by_cases h : k.min ≤ n ∧ n ≤ k.max
  · simp only [h.1, h.2, decide_true, Bool.and_true, cond_true]
    unfold IntKind.wrap
    revert h
    cases k <;> simp [IntKind.min, IntKind.max, IntKind.bits, IntKind.signed] <;> omega
  · have hc : (decide (k.min ≤ n) && decide (n ≤ k.max)) = false := by
      simp; omega
    simp only [hc, cond_false]
    have hm := cmod_eq k n
    unfold IntKind.wrap
    have h2 : (modulus k / 2 : Nat) = 2 ^ (k.bits - 1) := by cases k <;> decide
    have h3 : ((2 ^ (k.bits - 1) : Nat) : Int) = (2 ^ (k.bits - 1) : Int) := by simp
    simp only [← hm]
    by_cases hs : (k.signed && Nat.ble (modulus k / 2) (cmod k n)) = true
    · simp only [hs, cond_true]
      simp only [Bool.and_eq_true, Nat.ble_eq] at hs
      have : (k.signed && decide (((cmod k n : Nat) : Int) ≥ 2 ^ (k.bits - 1))) = true := by
        simp only [Bool.and_eq_true, hs.1, decide_eq_true_eq, true_and]
        rw [← h3, ← h2]; omega
      rw [if_pos this, Int.subNatNat_eq_coe, modulus_int]
    · have hs' : (k.signed && Nat.ble (modulus k / 2) (cmod k n)) = false := Bool.eq_false_iff.2 hs
      simp only [hs', cond_false]
      have : (k.signed && decide (((cmod k n : Nat) : Int) ≥ 2 ^ (k.bits - 1))) = false := by
        cases hsg : k.signed with
        | false => rfl
        | true =>
          rw [hsg] at hs'
          simp only [Bool.true_and] at hs' ⊢
          have h4 : ¬ (modulus k / 2 ≤ cmod k n) := by
            intro h; rw [← Nat.ble_eq] at h; rw [h] at hs'; cases hs'
          simp only [decide_eq_false_iff_not, ge_iff_le]
          rw [← h3, ← h2]; omega
      rw [this]; rfl
theorem cshr_eq (n : Nat) (x : Int) : cshr n x = x.fdiv (2 ^ n) := by
  have h : ((2 ^ n : Nat) : Int) = (2 ^ n : Int) := by simp
  have hp : 0 < 2 ^ n := Nat.two_pow_pos n
  rw [← h]
  cases x with
  | ofNat a => rw [Int.fdiv_eq_ediv_of_nonneg _ (by omega)]; rfl
  | negSucc a =>
    rw [Int.fdiv_eq_ediv_of_nonneg _ (by omega)]
    simp only [cshr]
    rw [Int.negSucc_ediv _ (by omega), Int.negSucc_eq]
    rfl
theorem ofInt_toNat (k : IntKind) (x : Int) : (BitVec.ofInt k.bits x).toNat = cmod k x := by
  rw [BitVec.toNat_ofInt]
  have := cmod_eq k x
  have h : ((2 ^ k.bits : Nat) : Int) = (2 ^ k.bits : Int) := by simp
  rw [h, ← this]; simp
theorem cbits_eq {P : Program} {w : World} (op : BinOp) (k : IntKind) (x y r : Int) (h : cbits op k x y = some r) :
    (Op.intBits op k x y).run P w = .ok (.int k r) w := by
  have hn : (BitVec.ofInt k.bits x &&& ~~~BitVec.ofInt k.bits y) = BitVec.ofInt k.bits x ^^^ (BitVec.ofInt k.bits x &&& BitVec.ofInt k.bits y) := by
    apply BitVec.eq_of_getLsbD_eq
    intro i hi
    simp only [BitVec.getLsbD_and, BitVec.getLsbD_not, BitVec.getLsbD_xor, hi, decide_true, Bool.true_and]
    cases (BitVec.ofInt k.bits x).getLsbD i <;> cases (BitVec.ofInt k.bits y).getLsbD i <;> rfl
  cases op <;> simp only [cbits, Option.some.injEq, reduceCtorEq] at h <;> subst h <;>
    simp only [Op.intBits, Sem.run_pure, cwrap_eq, hn] <;> simp only [BitVec.toNat_and, BitVec.toNat_or, BitVec.toNat_xor, ofInt_toNat] <;> rfl
theorem keq_eq (a b : IntKind) : keq a b = true → a = b := by
  cases a <;> cases b <;> first | (intro _; rfl) | (intro h; exact absurd h (by decide))

/-! ### strings -/
theorem toList_data (s : ByteArray) : s.toList = s.data.toList := ByteArray.toList_eq s
theorem ueq_eq (a b : UInt8) : ueq a b = (a == b) := by
  unfold ueq
  rw [Bool.eq_iff_iff]
  simp [← UInt8.toNat_inj]
theorem ult_eq (a b : UInt8) : ult a b = decide (a < b) := by
  unfold ult
  rw [Bool.eq_iff_iff]
  simp [Nat.blt_eq, UInt8.lt_iff_toNat_lt]
theorem lsEq_eq (a b : List UInt8) : lsEq a b = (a == b) := by
  induction a generalizing b with
  | nil => cases b <;> rfl
  | cons x a ih =>
    cases b with
    | nil => rfl
    | cons y b => simp [lsEq, ih, ueq_eq, List.cons_beq_cons]
theorem lsLt_eq (a b : List UInt8) : lsLt a b = Op.bytesLess a b := by
  induction a generalizing b with
  | nil => cases b <;> rfl
  | cons x a ih =>
    cases b with
    | nil => rfl
    | cons y b => rw [lsLt, Op.bytesLess, ih, ueq_eq, ult_eq]
theorem mkstr_sbytes (s : ByteArray) : mkstr (sbytes s) = s := rfl
theorem sbytes_mkstr (l : List UInt8) : sbytes (mkstr l) = l := rfl
theorem sbytes_length (s : ByteArray) : (sbytes s).length = s.size := (Lib.size_eq s).symm
theorem ba_ext {a b : ByteArray} (h : sbytes a = sbytes b) : a = b := by
  cases a; cases b; simp only [sbytes] at h; rw [Array.toList_inj.1 h]
theorem sbytes_append (a b : ByteArray) : sbytes (a ++ b) = sbytes a ++ sbytes b := by
  simp [sbytes, ByteArray.data_append]
theorem sbytes_extract (s : ByteArray) (b h : Nat) : sbytes (s.extract b h) = ((sbytes s).take h).drop b := by
  simp [sbytes, ByteArray.data_extract, Array.toList_extract, List.extract, List.drop_take]
theorem cstr_eq {P : Program} {w : World} (op : BinOp) (x y : ByteArray) (v : Value) (h : cstr op (sbytes x) (sbytes y) = some v) :
    (Op.stringOp op x y).run P w = .ok v w := by
  cases op <;> simp only [cstr, Option.some.injEq, reduceCtorEq] at h
  case add =>
    cases hb : Nat.ble ((sbytes x).length + (sbytes y).length) maxI with
    | false => rw [hb] at h; simp at h
    | true =>
      rw [hb] at h
      simp only [cond_true, Option.some.injEq] at h
      subst h
      rw [Nat.ble_eq, sbytes_length, sbytes_length] at hb
      unfold maxI at hb
      have : ¬ (((x.size + y.size : Nat) : Int) > IntKind.i64.max) := by
        simp [IntKind.max, IntKind.signed, IntKind.bits]; omega
      simp only [Op.stringOp]
      rw [if_neg this, Sem.run_pure]
      have e : x ++ y = mkstr (sbytes x ++ sbytes y) := ba_ext (by rw [sbytes_append, sbytes_mkstr])
      rw [e]
  all_goals
    subst h
    simp [Op.stringOp, toList_data, lsEq_eq, lsLt_eq, sbytes]
end Go.Cl
