/- lang: the number of a power, as strconv reads it. -/
import Derived.Test.YtnaadajcehfmiaaGreatDoorLrG
import Derived.Test.YtnaadajcehfmiaaGreatDoorShelf
namespace Go.Proofs.YtnaadajcehfmiaaGreatDoor
open Go.RowKit Go.Sort Go.Maps

theorem dec_lt10 {n : Nat} (h : n < 10) : Lib.decDigits n = [UInt8.ofNat (48 + n)] := by
  rw [Lib.decDigits]
  simp [h]
theorem dec_lt100 {n : Nat} (h : ¬ n < 10) (h2 : n < 100) : Lib.decDigits n = [UInt8.ofNat (48 + n / 10), UInt8.ofNat (48 + n % 10)] := by
  rw [Lib.decDigits, dif_neg h, dec_lt10 (by omega)]
  rfl
/-- The bytes of a number below 100. -/
def digL (n : Nat) : List Nat := if n < 10 then [48 + n] else [48 + n / 10, 48 + n % 10]
theorem dec_digL {n : Nat} (h : n < 100) : Lib.decDigits n = (digL n).map UInt8.ofNat := by
  unfold digL
  split
  · rename_i h1
    rw [dec_lt10 h1]; rfl
  · rename_i h1
    rw [dec_lt100 h1 h]; rfl
theorem byt_digL {n : Nat} (h : n < 100) : Byt (digL n) := by
  unfold digL
  intro b hb
  split at hb
  · rw [List.mem_singleton.1 hb]; omega
  · simp only [List.mem_cons, List.not_mem_nil, or_false] at hb
    rcases hb with rfl | rfl <;> omega
theorem whole_digL {n : Nat} (h : n ≤ 64) : wholeT (digL n) = some n := by
  have key : ∀ n : Fin 65, wholeT (digL n.1) = some n.1 := by decide
  exact key ⟨n, by omega⟩
theorem digL_whole {t : List Nat} {n : Nat} (h : wholeT t = some n) : t = digL n ∧ n ≤ 64 := by
  unfold wholeT at h
  split at h
  · rename_i hc
    obtain ⟨h1, h2, h3, h4, h5⟩ := hc
    injection h with h
    subst h
    refine ⟨?_, h5⟩
    rcases t with _ | ⟨a, _ | ⟨b, _ | ⟨c, l⟩⟩⟩
    · simp at h2
    · have ha : digB a = true := by simpa using h3
      unfold digB at ha
      have ha := of_decide_eq_true ha
      have e : decL [a] = a - 48 := by unfold decL; simp
      rw [e, digL, if_pos (by omega)]
      congr 1
      omega
    · have hab : digB a = true ∧ digB b = true := by simpa using h3
      unfold digB at hab
      have ha := of_decide_eq_true hab.1
      have hb := of_decide_eq_true hab.2
      have h0 : a ≠ 48 := fun e => h4 ⟨rfl, by rw [e]; rfl⟩
      have e : decL [a, b] = 10 * (a - 48) + (b - 48) := by unfold decL; simp
      rw [e, digL, if_neg (by omega)]
      have e1 : 48 + (10 * (a - 48) + (b - 48)) / 10 = a := by omega
      have e2 : 48 + (10 * (a - 48) + (b - 48)) % 10 = b := by omega
      rw [e1, e2]
    · simp at h1
  · cases h
theorem atoi_digL {n : Nat} (h : n ≤ 64) : Lib.atoiAll ((digL n).map UInt8.ofNat) = .ok (n : Int) := by
  have key : ∀ n : Fin 65, (match Lib.atoiAll ((digL n.1).map UInt8.ofNat) with | .ok v => decide (v = (n.1 : Int)) | _ => false) = true := by decide +kernel
  have := key ⟨n, by omega⟩
  simp only at this
  split at this
  · rename_i v hv
    rw [hv, of_decide_eq_true this]
  · cases this
/-- A number that begins with a digit is none below 0. -/
theorem atoi_pos {t : List Nat} {v : Int} (ht : Byt t) (hn : isNum t = true) (h : Lib.atoiAll (t.map UInt8.ofNat) = .ok v) : 0 ≤ v := by
  rcases t with _ | ⟨b, l⟩
  · cases hn
  · have hb : digB b = true := hn
    unfold digB at hb
    have hb := of_decide_eq_true hb
    have e : (UInt8.ofNat b).toNat = b := by
      have := ht b (List.mem_cons_self ..)
      simp; omega
    unfold Lib.atoiAll at h
    simp only [List.map_cons, e] at h
    rw [if_neg (by omega)] at h
    split at h
    · cases h
    · cases h
    · rename_i u hu
      split at h
      · cases h
      · split at h
        · cases h
        · injection h with h
          rw [← h, if_neg (by omega)]
          omega
/-- What strconv.Atoi tells of a token. -/
theorem atoi_any {W : World} {t : List Nat} (ht : Byt t) (hl : t.length ≤ 16384)
    (h1 : (itErr 4).P W) (h2 : (itErr 5).P W) :
    Calls Tryz.prog 85 #[.string (mkS t)] W (fun e w' => Below W.heap.size W w' ∧ ∃ (v : Int) (er : Value), e = .returned (.tuple #[.int .i64 v, er]) ∧ ((Lib.atoiAll (t.map UInt8.ofNat) = .ok v ∧ er = .nilIface) ∨ ((∀ v, Lib.atoiAll (t.map UInt8.ofNat) ≠ .ok v) ∧ ∃ q, er = .iface 130 (.pointer (some ⟨q, 0, none⟩))))) := by
  have hsz : (mkS t).size ≤ 16384 := by rw [mkS_size]; exact hl
  have hd : (mkS t).data.toList = t.map UInt8.ofNat := mkS_data t
  obtain ⟨e1, c1, k1⟩ := h1
  obtain ⟨e2, c2, k2⟩ := h2
  rcases ha : Lib.atoiAll (t.map UInt8.ofNat) with v | _ | _
  · refine (Tryz.strconv_Atoi_ok (mkS t) (by omega) v (by rw [hd]; exact ha) W).mono ?_
    rintro e w' ⟨rfl, hw⟩
    refine ⟨?_, v, .nilIface, rfl, .inl ⟨rfl, rfl⟩⟩
    rcases hw with rfl | ⟨q, rfl⟩
    · exact Below.refl _ _
    · exact Lib.bytesWorld_below _ _ _
  · refine (Tryz.strconv_Atoi_syntax (mkS t) (by omega) (by rw [hd]; exact ha) e1 W c1 k1).mono ?_
    rintro e w' ⟨N, rfl, -, -, hb⟩
    exact ⟨hb, _, _, rfl, .inr ⟨(fun v h => by cases h), N, rfl⟩⟩
  · refine (Tryz.strconv_Atoi_range (mkS t) (by omega) (by rw [hd]; exact ha) e2 W c2 k2).mono ?_
    rintro e w' ⟨N, rfl, -, -, hb⟩
    exact ⟨hb, _, _, rfl, .inr ⟨(fun v h => by cases h), N, rfl⟩⟩
end Go.Proofs.YtnaadajcehfmiaaGreatDoor
