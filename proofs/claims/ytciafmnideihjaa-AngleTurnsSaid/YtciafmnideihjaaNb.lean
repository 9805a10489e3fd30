/- The bytes of a number, digits to the base 256. Plain arithmetic. -/
import Derived.Test.YtciafmnideihjaaBytes
namespace Go.Proofs.Ytciafmnideihjaa

theorem snocInd {P : List Nat → Prop} (nil : P []) (snoc : ∀ l x, P l → P (l ++ [x])) (l : List Nat) : P l := by
  have h : ∀ m : List Nat, P m.reverse := by
    intro m
    induction m with
    | nil => exact nil
    | cons x m ih => rw [List.reverse_cons]; exact snoc _ _ ih
  have := h l.reverse
  rwa [List.reverse_reverse] at this

def nbF : Nat → Nat → List Nat
  | 0, _ => []
  | f + 1, n => if n = 0 then [] else n % 256 :: nbF f (n / 256)
/-- The bytes of a number, the lowest first, no nought at the end. -/
def nb (n : Nat) : List Nat := nbF n n

theorem nbF_more : ∀ (f n : Nat), n ≤ f → nbF f n = nb n := by
  intro f
  induction f using Nat.strongRecOn with
  | _ f ih =>
    intro n hn
    unfold nb
    cases f with
    | zero => have : n = 0 := by omega
              subst this; rfl
    | succ f =>
      cases n with
      | zero => simp [nbF]
      | succ n =>
        have h1 : (n + 1) / 256 ≤ f := by omega
        have h2 : (n + 1) / 256 ≤ n := by omega
        simp only [nbF]
        rw [ih f (by omega) _ h1]
        by_cases hnf : n < f + 1
        · rw [ih n hnf _ h2]
        · omega
theorem nb_zero : nb 0 = [] := rfl
theorem nb_pos {n : Nat} (h : 0 < n) : nb n = n % 256 :: nb (n / 256) := by
  cases n with
  | zero => omega
  | succ n =>
    show nbF (n + 1) (n + 1) = _
    simp only [nbF]
    rw [if_neg (by omega), nbF_more n _ (by omega)]

theorem nb_lt {n : Nat} : ∀ x, x ∈ nb n → x < 256 := by
  induction n using Nat.strongRecOn with
  | _ n ih =>
    by_cases h : 0 < n
    · rw [nb_pos h]
      intro x hx
      rcases List.mem_cons.1 hx with rfl | hx
      · omega
      · exact ih _ (by omega) x hx
    · have : n = 0 := by omega
      subst this
      intro x hx
      cases hx

theorem nb_get {n : Nat} : ∀ {i : Nat}, i < (nb n).length → (nb n)[i]? = some (n / 256 ^ i % 256) := by
  induction n using Nat.strongRecOn with
  | _ n ih =>
    intro i hi
    by_cases h : 0 < n
    · rw [nb_pos h] at hi ⊢
      cases i with
      | zero => simp
      | succ i =>
        simp only [List.length_cons] at hi
        rw [List.getElem?_cons_succ, ih _ (by omega) (by omega), Nat.pow_succ, Nat.mul_comm, Nat.div_div_eq_div_mul]
    · have : n = 0 := by omega
      subst this
      simp [nb_zero] at hi

theorem nb_bounds {n : Nat} (h : 0 < n) : 256 ^ ((nb n).length - 1) ≤ n ∧ n < 256 ^ (nb n).length := by
  induction n using Nat.strongRecOn with
  | _ n ih =>
    rw [nb_pos h]
    simp only [List.length_cons, Nat.add_sub_cancel]
    by_cases h2 : 0 < n / 256
    · obtain ⟨h3, h4⟩ := ih _ (by omega) h2
      have h5 : 0 < (nb (n / 256)).length := by rw [nb_pos h2]; simp
      constructor
      · have e : (nb (n / 256)).length = (nb (n / 256)).length - 1 + 1 := by omega
        rw [e, Nat.pow_succ]
        have : 256 ^ ((nb (n / 256)).length - 1) * 256 ≤ n / 256 * 256 := Nat.mul_le_mul_right _ h3
        omega
      · rw [Nat.pow_succ]; omega
    · have e : n / 256 = 0 := by omega
      rw [e, nb_zero]
      simp
      omega

/-- The number of bytes, from bounds. -/
theorem nb_len {n L : Nat} (h : 0 < n) (h1 : 256 ^ (L - 1) ≤ n) (h2 : n < 256 ^ L) : (nb n).length = L := by
  obtain ⟨h3, h4⟩ := nb_bounds h
  have hL : 0 < L := by
    rcases Nat.eq_zero_or_pos L with h0 | h0
    · subst h0; simp at h2; omega
    · exact h0
  rcases Nat.lt_trichotomy (nb n).length L with hh | hh | hh
  · have : 256 ^ (nb n).length ≤ 256 ^ (L - 1) := Nat.pow_le_pow_right (by omega) (by omega)
    omega
  · exact hh
  · have : 256 ^ L ≤ 256 ^ ((nb n).length - 1) := Nat.pow_le_pow_right (by omega) (by omega)
    omega

/-- .. from how many bits it has. -/
theorem nb_len_bits {n b : Nat} (h : 0 < n) (hb : 0 < b) (h1 : 2 ^ (b - 1) ≤ n) (h2 : n < 2 ^ b) : (nb n).length = (b + 7) / 8 := by
  have e : (256 : Nat) = 2 ^ 8 := rfl
  refine nb_len h ?_ ?_
  · rw [e, ← Nat.pow_mul]
    exact Nat.le_trans (Nat.pow_le_pow_right (by omega) (by omega)) h1
  · rw [e, ← Nat.pow_mul]
    exact Nat.lt_of_lt_of_le h2 (Nat.pow_le_pow_right (by omega) (by omega))

/-- The bytes, the highest first. -/
def natL (n : Nat) : List Nat := (nb n).reverse
theorem natL_len (n : Nat) : (natL n).length = (nb n).length := by simp [natL]

theorem be_append (l m : List Nat) : be (l ++ m) = be l * 256 ^ m.length + be m := by
  induction m using snocInd with
  | nil => simp [be_nil]
  | snoc m x ih =>
    rw [← List.append_assoc, be_snoc, be_snoc, ih, List.length_append, List.length_singleton, Nat.pow_succ]
    rw [Nat.mul_add, ← Nat.add_assoc]
    congr 2
    ac_rfl

theorem be_natL (n : Nat) : be (natL n) = n := by
  induction n using Nat.strongRecOn with
  | _ n ih =>
    by_cases h : 0 < n
    · unfold natL
      rw [nb_pos h, List.reverse_cons, be_snoc]
      have := ih (n / 256) (by omega)
      unfold natL at this
      rw [this]
      omega
    · have : n = 0 := by omega
      subst this; rfl

theorem natL_head {n : Nat} : (natL n).head? ≠ some 0 := by
  intro h
  have hn : 0 < n := by
    rcases Nat.eq_zero_or_pos n with h0 | h0
    · subst h0; simp [natL, nb_zero] at h
    · exact h0
  obtain ⟨h3, -⟩ := nb_bounds hn
  have hl : 0 < (nb n).length := by rw [nb_pos hn]; simp
  unfold natL at h
  rw [List.head?_reverse, List.getLast?_eq_getElem?, nb_get (by omega)] at h
  have h5 := Option.some.inj h
  obtain ⟨-, h4⟩ := nb_bounds hn
  have e : 256 ^ (nb n).length = 256 * 256 ^ ((nb n).length - 1) := by
    have : (nb n).length = (nb n).length - 1 + 1 := by omega
    rw [this, Nat.pow_succ, Nat.mul_comm, Nat.add_sub_cancel]
  have h6 : n / 256 ^ ((nb n).length - 1) < 256 := by
    rw [Nat.div_lt_iff_lt_mul (Nat.pow_pos (by omega)), ← e]; exact h4
  have h7 : 0 < n / 256 ^ ((nb n).length - 1) := Nat.div_pos h3 (Nat.pow_pos (by omega))
  omega

/-- Bytes without a nought ahead are the number's own. -/
theorem natL_be {l : List Nat} (hl : ∀ x, x ∈ l → x < 256) (h : l.head? ≠ some 0) : natL (be l) = l := by
  induction l using snocInd with
  | nil => rfl
  | snoc l x ih =>
    have hx : x < 256 := hl x (by simp)
    rw [be_snoc]
    by_cases h0 : l = []
    · subst h0
      have hx0 : x ≠ 0 := fun e => h (by simp [e])
      have e0 : 256 * be [] + x = x := by simp [be_nil]
      unfold natL
      rw [e0, nb_pos (by omega), Nat.mod_eq_of_lt hx, Nat.div_eq_of_lt hx, nb_zero]
      rfl
    · have hl' := ih (fun y hy => hl y (by simp [hy])) (by
        cases l with
        | nil => exact absurd rfl h0
        | cons y m => simpa using h)
      have hpos : 0 < be l := by
        rcases Nat.eq_zero_or_pos (be l) with hz | hz
        · rw [hz] at hl'
          exact absurd hl'.symm h0
        · exact hz
      unfold natL at hl' ⊢
      rw [nb_pos (by omega), List.reverse_cons, show (256 * be l + x) / 256 = be l by omega, hl', show (256 * be l + x) % 256 = x by omega]

theorem be_lt {l : List Nat} (hl : ∀ x, x ∈ l → x < 256) : be l < 256 ^ l.length := by
  induction l using snocInd with
  | nil => simp [be_nil]
  | snoc l x ih =>
    have hx : x < 256 := hl x (by simp)
    have := ih (fun y hy => hl y (by simp [hy]))
    rw [be_snoc, List.length_append, List.length_singleton, Nat.pow_succ]
    omega
end Go.Proofs.Ytciafmnideihjaa
