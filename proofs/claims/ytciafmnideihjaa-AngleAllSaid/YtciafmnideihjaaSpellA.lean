/- Package angle: number, Digits; filigreelaw21.bytes. -/
import Derived.Test.YtciafmnideihjaaWideJ
import Derived.Test.YtciafmnideihjaaBackP
namespace Go.Proofs.Ytciafmnideihjaa
open Go.RowKit Go.Sort

/-- What digits to a base say. -/
def numL (d : Nat) (l : List Nat) : Nat := l.foldl (fun a x => a * d + x) 0
theorem numL_snoc (d : Nat) (l : List Nat) (x : Nat) : numL d (l ++ [x]) = numL d l * d + x := by simp [numL]
theorem numL_take {d : Nat} {l : List Nat} {k x : Nat} (h : l[k]? = some x) : numL d (l.take (k + 1)) = numL d (l.take k) * d + x := by
  have hlt := lt_of_getElem? h
  have e : l[k] = x := by rw [List.getElem?_eq_getElem hlt] at h; exact Option.some.inj h
  rw [List.take_succ_eq_append_getElem hlt, e, numL_snoc]
theorem numL_lt {d : Nat} (hd : d ≤ 256) : ∀ (l : List Nat), (∀ x, x ∈ l → x < 256) → numL d l < 256 ^ l.length := by
  intro l
  induction l using snocInd with
  | nil => intro _; simp [numL]
  | snoc l x ih =>
    intro h
    rw [numL_snoc, List.length_append, show l.length + [x].length = l.length + 1 by simp, Nat.pow_succ]
    have h1 := ih fun y hy => h y (by simp [hy])
    have h2 := h x (by simp)
    have h3 : numL d l * d ≤ numL d l * 256 := Nat.mul_le_mul_left _ hd
    have h4 : (numL d l + 1) * 256 ≤ 256 ^ l.length * 256 := Nat.mul_le_mul_right _ h1
    omega
theorem dg_of_256 {n k : Nat} (h : n < 256 ^ k) : (dg n).length ≤ k :=
  dg_len_le_of_lt (Nat.lt_of_lt_of_le h (Nat.pow_le_pow_left (by omega) k))

set_option maxRecDepth 100000 in
set_option maxHeartbeats 1000000 in
/-- angle.number -/
theorem number_any (d : Nat) (v : Value) (l : List Nat) (w : World) (hd : d ≤ 64) (hv : Rd .u8 5 w v l) (hs : ∀ x, x ∈ l → x < 256) (hlen : l.length ≤ 100000) :
    Calls Try.prog 74 #[.int .i64 (d : Int), v] w (RetNew ((numL d l : Nat) : Int) w) := by
  obtain ⟨A, c, rfl, h1, h2, h3⟩ := id hv
  obtain ⟨L, hL⟩ : ∃ L, L = l.length := ⟨_, rfl⟩
  rw [← hL] at h1 hlen ⊢
  have kn := Big.new w
  have hB0 : Below w.heap.size w (w.alloc (.cells #[.bool false, .slice none 0 0] 120)) := (Below.refl _ w).alloc (Nat.le_refl _) _
  replace hv := Lib.hid hv
  replace hs := Lib.hid hs
  replace hL := Lib.hid hL
  replace kn := Lib.hid kn
  replace hB0 := Lib.hid hB0
  clear h3
  go_enter Try.func74, Try.ntmps74
  go_wp2_with fail
  refine (newInt_any d _ (by omega)).mono ?_
  rintro e w1 ⟨pb, rfl, hpb, hbig, hb⟩
  have kn1 := Lib.hid (kn.out.below hb)
  have hB1 := Lib.hid (hB0.out.trans (hb.mono hB0.out.size))
  have hpn : Hid (pb ≠ w.heap.size) := Lib.hid (by simp at hpb; omega)
  have hpb' : Hid (w.heap.size ≤ pb) := Lib.hid (by simp at hpb; omega)
  replace hbig := Lib.hid hbig
  clear hb hpb kn hB0
  go_wp2_with fail
  go_loopw [14] (fun i wr => ∃ k : Nat, i = .int .i64 (k : Int) ∧ k ≤ L ∧ Big wr w.heap.size 0 ((numL d (l.take k) : Nat) : Int) ∧ Big wr pb 0 (d : Int) ∧ Below w.heap.size w wr) (fun i _ => L - (intOf i).toNat)
  case atStart => exact ⟨0, rfl, Nat.zero_le _, kn1.out, hbig.out, hB1.out⟩
  case round =>
    obtain ⟨k, rfl, hk, hn, hbg, hB⟩ := hrel
    replace hn := Lib.hid hn
    replace hbg := Lib.hid hbg
    by_cases h0 : k < L
    · have h0I : (k : Int) < (L : Int) := by omega
      obtain ⟨x, hx⟩ : ∃ x, l[k]? = some x := ⟨_, List.getElem?_eq_getElem (by rw [← hL.out]; exact h0)⟩
      have hxs : x < 256 := hs.out x (List.mem_of_getElem? hx)
      obtain ⟨ga, oa, ca, La, ea, -, -, hAa, hLa⟩ := hv.out.open_ (fun e => by have := hL.out; rw [e] at this; simp at this; omega)
      injection ea with ea1 _ ea2
      subst ea1 ea2
      have hcx : wr.cell? ⟨ga, oa + k, none⟩ = some (.int .u8 (x : Int)) := (hB.cell (p := ⟨ga, oa + k, none⟩) hAa.lt).trans (hAa.cell (hLa _ _ hx))
      obtain ⟨V, hV⟩ : ∃ V, V = numL d (l.take k) := ⟨_, rfl⟩
      have hVs := numL_lt (d := d) (by omega) (l.take k) (fun y hy => hs.out y (List.mem_of_mem_take hy))
      rw [← hV] at hVs
      have hVd : Hid ((dg V).length ≤ 1073741823) := Lib.hid (by
        have h1 := dg_of_256 hVs
        rw [List.length_take] at h1
        omega)
      have hVd2 : Hid ((dg (V * d)).length ≤ 1073741823) := Lib.hid (by
        have h2 : V * d < 256 ^ ((l.take k).length + 1) := by
          rw [Nat.pow_succ]
          have h3 : V * d ≤ V * 256 := Nat.mul_le_mul_left _ (by omega)
          have h4 : (V + 1) * 256 ≤ 256 ^ (l.take k).length * 256 := Nat.mul_le_mul_right _ hVs
          omega
        have h1 := dg_of_256 h2
        rw [List.length_take] at h1
        omega)
      have hdd : Hid ((dg d).length ≤ 1073741823) := Lib.hid (by have := dg_of_256 (n := d) (k := 1) (by omega); omega)
      have hxd : Hid ((dg x).length ≤ 1073741823) := Lib.hid (by have := dg_of_256 (n := x) (k := 1) (by omega); omega)
      have hnext : Hid (numL d (l.take (k + 1)) = V * d + x) := Lib.hid (by rw [numL_take hx, hV])
      rw [← hV] at hn
      replace hB := Lib.hid hB
      clear hVs hx hV
      go_wp2_with fail
      refine (mulBig_any w.heap.size 0 w.heap.size 0 pb 0 (V : Int) (d : Int) _ hn.out.slot hn.out hbg.out (by rw [Int.natAbs_natCast]; exact hVd.out) (by rw [Int.natAbs_natCast]; exact hdd.out)).mono ?_
      rintro e w2 ⟨rfl, hn2, hg⟩
      have hbg2 := Lib.hid (hbg.out.grown hn.out.slot hg hpn.out)
      have hB2 := Lib.hid (below_gb hB.out hg (Nat.le_refl _) hB.out.size)
      rw [← Int.natCast_mul] at hn2
      replace hn2 := Lib.hid hn2
      clear hg hcx
      go_wp2_with fail
      refine (newInt_any x _ (by omega)).mono ?_
      rintro e w3 ⟨px, rfl, hpx, hbx, hb⟩
      have hn3 := Lib.hid (hn2.out.below hb)
      have hbg3 := Lib.hid (hbg2.out.below hb)
      have hB3 := Lib.hid (hB2.out.trans (hb.mono hB2.out.size))
      replace hbx := Lib.hid hbx
      clear hb hpx
      go_wp2_with fail
      refine (addBig_any w.heap.size 0 w.heap.size 0 px 0 ((V * d : Nat) : Int) (x : Int) _ hn3.out.slot hn3.out hbx.out (by rw [Int.natAbs_natCast]; exact hVd2.out) (by rw [Int.natAbs_natCast]; exact hxd.out)).mono ?_
      rintro e w4 ⟨rfl, hn4, hg⟩
      have hbg4 := Lib.hid (hbg3.out.grown hn3.out.slot hg hpn.out)
      have hB4 := Lib.hid (below_gb hB3.out hg (Nat.le_refl _) hB3.out.size)
      rw [← Int.natCast_add, ← hnext.out] at hn4
      replace hn4 := Lib.hid hn4
      clear hg
      go_wp2_with fail
      go_roundw
      case rel => exact ⟨k + 1, by go_num, by omega, hn4.out, hbg4.out, hB4.out⟩
      case measure => simp [intOf]; omega
    · obtain rfl : k = L := by omega
      rw [hL.out, List.take_length] at hn
      have h0I : ¬ (k : Int) < (k : Int) := by omega
      replace hB := Lib.hid hB
      go_wp2_with fail
      go_ret
      exact ⟨w.heap.size, rfl, Nat.le_refl _, hn.out, hB.out⟩
end Go.Proofs.Ytciafmnideihjaa
