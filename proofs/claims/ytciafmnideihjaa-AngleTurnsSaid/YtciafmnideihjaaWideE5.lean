/- Package wide: over, the long division: the head, the loop over the quotient's places, the end. -/
import Derived.Test.YtciafmnideihjaaWideE4
import Derived.Test.YtciafmnideihjaaBits
import Derived.Test.YtciafmnideihjaaShelf
import Derived.Laws.CopyOwn
import Derived.Deep.CutBlock
namespace Go.Proofs.Ytciafmnideihjaa
open Go.RowKit

theorem len_u32 : (Try.prog.info? 143).map (·.size) = some 1 := by kernel_rfl

theorem splice_zeros (k : IntKind) (l : List Nat) (m : Nat) : splice (ivs k (List.replicate m 0)) 0 (ivs k l) = ivs k (l ++ List.replicate (m - l.length) 0) := by
  simp [splice, ivs, List.drop_replicate]

theorem val_zeros (l : List Nat) (m : Nat) : val (l ++ List.replicate m 0) = val l := by rw [val_append, val_replicate]; simp

set_option maxRecDepth 100000 in
set_option maxHeartbeats 4000000 in
theorem over_long (va vb : Value) (a b : Nat) (w : World) (ha : Dg w va a) (hb : Dg w vb b) (h : b ≤ a) (hl : 2 ≤ (dg b).length) (hlen : (dg a).length ≤ 1073741823) :
    Calls Try.prog 106 #[va, vb] w (RetOver a b w) := by
  have hc : ¬ cmpI a b < 0 := by
    rcases Nat.lt_or_ge b a with h' | h'
    · rw [cmpI_gt h']; decide
    · rw [cmpI_eq (by omega)]; decide
  have hne : dg b ≠ [] := fun e => by rw [e] at hl; simp at hl
  have hne' : dg a ≠ [] := fun e => by have := dg_len_mono h; rw [e] at this; simp at this; rw [this] at hl; simp at hl
  obtain ⟨gb, ob, cb, Lb, rfl, hb1, hb2, hB, hLb⟩ := hb.open_ hne
  obtain ⟨ga, oa, ca, La, rfl, ha1, ha2, hA, hLa⟩ := ha.open_ hne'
  have hab := dg_len_mono h
  obtain ⟨x, hx⟩ : ∃ x, (dg b)[(dg b).length - 1]? = some x := ⟨_, List.getElem?_eq_getElem (by omega)⟩
  have hxs := getElem?_dg hx
  have hx0 : 0 < x := dg_last b x (by rw [List.getLast?_eq_getElem?]; exact hx)
  obtain ⟨s, hs, hsl, hs1, hs2⟩ := norm_spec hxs hx0
  obtain ⟨n, hn⟩ : ∃ n, (dg b).length = n := ⟨_, rfl⟩
  obtain ⟨N, hN⟩ : ∃ N, (dg a).length = N := ⟨_, rfl⟩
  rw [hn] at hx
  obtain ⟨hnl, hV1, hV2⟩ := norm_len hn hx hs1 hs2 (by omega)
  have hcx : w.cell? ⟨gb, ob + (n - 1), none⟩ = some (.int .u32 (x : Int)) := hB.cell (hLb _ _ hx)
  have hln : (dg a).length ≤ 1073741824 := by omega
  have hlnb : (dg b).length ≤ 1073741824 := by omega
  rw [hn] at hl hab hb1 hb hlnb ⊢
  rw [hN] at hlen ha1 ha hab hln ⊢
  have ha := Lib.hid ha
  have hb := Lib.hid hb
  have HN := Lib.hid hN
  have Hn := Lib.hid hn
  have HNL := Lib.hid hnl
  have HV1 := Lib.hid hV1
  have HV2 := Lib.hid hV2
  have HX := Lib.hid hx
  have hsl := Lib.hid hsl
  have hn1 : ((n : Int) == 1) = false := by simp; omega
  have hmk : ∀ w : World, (Instr.makeSlice 118 (.int .i64 ((N : Int) + 1)) (.int .i64 ((N : Int) + 1))).run Try.prog w = .ok (.slice (some ⟨w.heap.size, 0, none⟩) (N + 1) (N + 1)) (w.alloc (.cells (ivs .u32 (List.replicate (N + 1) 0)).toArray 143)) := fun w => make_u32 (N + 1) (by omega) w
  clear hx hN hn hnl hLb hLa hV1 hV2 hs1 hs2 h hne hne'
  go_enter Try.func106, Try.ntmps106
  go_wp2_with fail
  refine (cmp_any _ _ a b _ ha.out hb.out).mono ?_
  rintro e w1 ⟨rfl, n1, rfl⟩
  go_wp2_with fail
  refine (Try.bits_LeadingZeros32 (x : Int) _ (by omega) (by omega)).mono ?_
  rintro e w1 ⟨rfl, rfl⟩
  rw [Int.toNat_natCast, hsl.out]
  go_wp2_with fail
  refine (left_any _ b s _ (hb.out.drewN _) (by rw [Hn.out]; exact hlnb) (by omega)).mono ?_
  rintro e w2 ⟨v, rfl, hv, hb2⟩
  have hv := Lib.hid hv
  have hb2 := Lib.hid hb2
  go_wp2_with fail
  have ha2 := (ha.out.drewN n1).below hb2.out
  have ha3 := ha2.alloc (.cells (ivs .u32 (List.replicate (N + 1) 0)).toArray 143)
  have ha3 := Lib.hid ha3
  refine (left_any _ a s _ ha3.out (by rw [HN.out]; exact hln) (by omega)).mono ?_
  rintro e w3 ⟨v3, rfl, hv3, hb3⟩
  have hv3 := Lib.hid hv3
  have hb3 := Lib.hid hb3
  obtain ⟨A3, c3, rfl, h31, h32, h33⟩ := id hv3.out
  obtain ⟨K, hK⟩ : ∃ K, K = (dg (a * 2 ^ s)).length := ⟨_, rfl⟩
  have HK := Lib.hid hK
  rw [← hK] at h31 hv3 ⊢
  have h33 := Lib.hid h33
  clear hK
  -- the row u, and what is copied into it
  have hU3 : Arr w3 w2.heap.size .u32 143 (List.replicate (N + 1) 0) := (Arr.new w2 .u32 143 (List.replicate (N + 1) 0)).below hb3.out (by simp)
  have hap : 0 < a * 2 ^ s := Nat.mul_pos (by
    rcases Nat.eq_zero_or_pos a with h0 | h0
    · exfalso; have := HN.out; rw [h0, dg_zero] at this; simp at this; omega
    · exact h0) (Nat.two_pow_pos s)
  have hKN : K ≤ N + 1 := by
    rw [HK.out]
    refine dg_len_le_of_lt ?_
    have h1 := dg_lt a
    rw [HN.out] at h1
    have h2 : 2 ^ s ≤ 2 ^ 32 := Nat.pow_le_pow_right (by omega) (by omega)
    calc a * 2 ^ s ≤ a * 2 ^ 32 := Nat.mul_le_mul_left _ h2
      _ < 4294967296 ^ N * 2 ^ 32 := Nat.mul_lt_mul_of_pos_right h1 (by omega)
      _ = 4294967296 ^ (N + 1) := (Nat.pow_succ ..).symm
  obtain ⟨w4, hcp, hU4, hg4⟩ := copy_run (P := Try.prog) (ty := 3) (dLen := N + 1) (dCap := N + 1) Try.underlying118 len_u32 hU3 (by have := hv3.out; rw [HK.out] at this; exact this) (fun e => by rw [dg_nil_iff] at e; omega) (by rw [← HK.out]; exact hKN) (by rw [← HK.out, List.length_replicate]; exact hKN)
  rw [← HK.out] at hcp
  -- the divisor
  obtain ⟨gv, ov, cv, Lv, rfl, hv1, hv2, hV, hLv⟩ := hv.out.open_ (fun e => by have := HNL.out; rw [e] at this; simp at this; omega)
  rw [HNL.out] at hv1 ⊢
  have hgv : gv < w2.heap.size := hV.lt
  have hB2 : Below w.heap.size w w2 := (below_drewN (Below.refl _ w) _).trans hb2.out
  have hB4 : Below w2.heap.size w2 w4 := (((Below.refl _ w2).alloc (Nat.le_refl _) _).trans ((hb3.out).mono (by simp))).grown hg4 (by have := hb3.out.size; simp at this; omega) (fun k hk => by cases hk; exact Nat.le_refl _)
  have hmk2 : ∀ w : World, (Instr.makeSlice 118 (.int .i64 ((N : Int) + 1 - (n : Int))) (.int .i64 ((N : Int) + 1 - (n : Int)))).run Try.prog w = .ok (.slice (some ⟨w.heap.size, 0, none⟩) (N + 1 - n) (N + 1 - n)) (w.alloc (.cells (ivs .u32 (List.replicate (N + 1 - n) 0)).toArray 143)) := fun w => by
    have := make_u32 (N + 1 - n) (by omega) w
    rwa [show ((N + 1 - n : Nat) : Int) = (N : Int) + 1 - (n : Int) by omega] at this
  have hU4 := Lib.hid hU4
  have hB4 := Lib.hid hB4
  have hB2 := Lib.hid hB2
  have hV := Lib.hid hV
  have hLv := Lib.hid hLv
  have hU3 := Lib.hid hU3
  clear hg4
  go_wp2_with fail
  have hQ0 := Arr.new w4 .u32 143 (List.replicate (N + 1 - n) 0)
  have hU5 := hU4.out.alloc (.cells (ivs .u32 (List.replicate (N + 1 - n) 0)).toArray 143)
  have hB5 := hB4.out.alloc hB4.out.size (.cells (ivs .u32 (List.replicate (N + 1 - n) 0)).toArray 143)
  have hgq : w2.heap.size < w4.heap.size := hU4.out.lt
  generalize hw5 : w4.alloc (.cells (ivs .u32 (List.replicate (N + 1 - n) 0)).toArray 143) = w5 at hQ0 hU5 hB5 ⊢
  clear hw5
  generalize hgu : w2.heap.size = gu at *
  generalize hgqe : w4.heap.size = gq at *
  have HGU := Lib.hid hgu
  have HGQ := Lib.hid hgqe
  obtain ⟨V, hVe⟩ : ∃ V, V = b * 2 ^ s := ⟨_, rfl⟩
  obtain ⟨AA, hAe⟩ : ∃ AA, AA = a * 2 ^ s := ⟨_, rfl⟩
  have hst : KInv AA V n (N + 1) (N + 1 - n) (dg (a * 2 ^ s) ++ (List.replicate (N + 1) 0).drop (dg (a * 2 ^ s)).length) (List.replicate (N + 1 - n) 0) := {
    lu := by
      have hk := HK.out
      simp only [List.length_append, List.length_drop, List.length_replicate]
      omega
    lq := by simp; omega
    su := (sm_dg _).app ((sm_replicate _).drop _)
    sq := sm_replicate _
    value := by
      rw [List.drop_replicate, val_zeros, val_dg, hAe]
      simp [val]
    small := by
      rw [val_drop ((sm_dg _).app ((sm_replicate _).drop _)), List.drop_replicate, val_zeros, val_dg, Nat.div_lt_iff_lt_mul (Nat.pow_pos (by omega)), hVe]
      have h1 := dg_lt a
      rw [HN.out] at h1
      have h2 : 2 ^ s ≤ 2 ^ 31 := Nat.pow_le_pow_right (by omega) (by omega)
      calc a * 2 ^ s ≤ a * 2 ^ 31 := Nat.mul_le_mul_left _ h2
        _ < 4294967296 ^ N * 2 ^ 31 := Nat.mul_lt_mul_of_pos_right h1 (by omega)
        _ = (2147483648 * 4294967296 ^ (n - 1)) * 4294967296 ^ (N + 1 - n) := by
            rw [Nat.mul_assoc, ← Nat.pow_add, show n - 1 + (N + 1 - n) = N by omega, Nat.mul_comm]
        _ ≤ b * 2 ^ s * 4294967296 ^ (N + 1 - n) := Nat.mul_le_mul_right _ HV1.out }
  have HVe := Lib.hid hVe
  have HAe := Lib.hid hAe
  have hst := Lib.hid hst
  have hmq : N + 1 - n ≤ 1073741824 := by omega
  have hqn : N + 1 - n + n = N + 1 := by omega
  obtain ⟨mq, hmqe⟩ : ∃ mq, mq = N + 1 - n := ⟨_, rfl⟩
  rw [← hmqe] at hmq hqn hQ0 hst ⊢
  have hqn' : mq + n ≤ N + 1 := by omega
  have HQN := Lib.hid hqn
  clear hgu hgqe hVe hAe hmqe hqn hmk hmk2 hcp hcx hc
  have hgvs := Lib.hid hgv
  go_loopw [13] (fun i wr => ∃ (j : Nat) (U Q : List Nat), i = .int .i64 ((j : Int) - 1) ∧ j ≤ mq ∧ KInv AA V n (N + 1) j U Q ∧ Arr wr gu .u32 143 U ∧ Arr wr gq .u32 143 Q ∧ Below gu w2 wr) (fun i _ => (intOf i + 1).toNat)
  case atStart => exact ⟨mq, _, _, rfl, Nat.le_refl _, hst.out, hU5, hQ0, hB5⟩
  case round =>
    obtain ⟨j, U, Q, rfl, hj, hK, hU, hQ, hB⟩ := hrel
    have hK := Lib.hid hK
    by_cases h0 : 0 < j
    · obtain ⟨k, rfl⟩ : ∃ k, j = k + 1 := ⟨j - 1, by omega⟩
      rw [show ((k + 1 : Nat) : Int) - 1 = (k : Int) by omega]
      go_upto_block 1 with fail
      refine step_wp _ _ _ _ _ _ _ _ _ _ _ _ _ _ _ _ _ _ _ _ _ _ _ _ _ _ _ _ _ _ _ _ _ _ _ _ _ _ _ _ _ _ _ _ _ _ _ _ _ _ _ _ _ _ _ _ _ _ _ _ _ _ _ _ _ _ _ _ _ _ _ _ _ _ _ _ _ _ _ _ _ _ _ _ _ _ _ _ _ _ _ _ _ _ _ _ _ _ _ _ _ _ _ _ _ _ _ _ _ _ _ _ _ _ _ _ _ _ _ _ _ _ _ _ _ _ _ _ _ _ _ _ _ _ _ _ _ _ _ _ _ _ _ _ _ _ _ _ _ _ _ _ _ _ _ _ _ _ _ _ _ _ _ _ _ _ _ _ _ _ _ _ _ _ _ _ _ _ _ _ _ _ _ _ _ _ _ _ _ _ _ _ _ _ _ _ _ _ _ _ _ _ _ _ _ _ _ _ _ _ _ _ _ _ _ _ _ _ _ _ _ _ _ _ _ _ _ _ _ _ _ _ _ _ _ _ _ _ _ _ _ _ _ _ _ _ _ _ _ _ _ _ _ _ _ w2 _ gu gv gq ov cv n k N mq AA V U Q (dg (b * 2 ^ s)) hl (by omega) HQN.out (by omega) hK hU hQ hB hgv hgq (Lib.hid ⟨HNL.out, sm_dg _, by rw [val_dg, HVe.out], by rw [HVe.out]; exact HV2.out⟩) (Lib.hid fun y hy => dg_last (b * 2 ^ s) y (by rw [List.getLast?_eq_getElem?, HNL.out]; exact hy)) (Lib.hid fun t ht => ?_) ?_
      · have e : (dg (b * 2 ^ s))[t]? = some ((dg (b * 2 ^ s))[t]'(by rw [HNL.out]; exact ht)) := List.getElem?_eq_getElem _
        exact ⟨_, e, getElem?_dg e, hV.out.cell (hLv.out _ _ e)⟩
      intro U' Q' x14 x15 x16 x17 x18 x19 x20 x21 x22 x77 x78 x79 x80 x81 x82 x83 x84 x85 x86 x87 x88 x89 x90 x91 x92 x93 x94 x95 x96 x97 x98 x99 x100 x101 x102 x103 x104 x105 x106 x107 x108 x109 x110 x111 x112 x113 x114 x115 x116 x117 x118 x119 x120 x121 x122 x123 x124 x125 x126 x127 x128 x129 x130 x131 x132 x133 x134 x135 x136 x137 x138 x139 x140 x141 x142 x143 x144 x145 x146 x147 x148 x149 x150 x151 x152 x153 x154 x155 x156 x157 x158 x159 x160 x161 x162 x163 x164 x165 x166 x167 x168 x169 x170 x171 x172 x173 x174 x175 x176 x177 x178 x179 x180 x181 x182 x183 x184 x185 x186 x187 x188 x189 x190 x191 x192 x193 x194 x195 x196 x197 x198 x199 x200 x201 x202 x203 x204 x205 x206 x207 x208 x209 x210 x211 x212 x213 x214 x215 x216 x217 x218 x219 x220 x221 x222 x223 x224 x225 x226 x227 x228 x229 x230 x231 x232 x233 x234 x235 x236 x237 x238 x239 x240 x241 x242 x243 x244 x245 x246 x247 x248 x249 x250 x251 x252 wx hK' hU' hQ' hB'
      have hK' := Lib.hid hK'
      go_wp2_with fail
      go_roundw
      case rel => exact ⟨k, U', Q', rfl, by omega, hK'.out, hU', hQ', hB'⟩
      case measure => simp [intOf]
    · obtain rfl : j = 0 := by omega
      have hVp : 0 < V := by have := hK.out.small; omega
      have hval := hK.out.value
      have hsm := hK.out.small
      rw [Nat.pow_zero, Nat.one_mul, List.drop_zero] at hval
      rw [List.drop_zero] at hsm
      have hbp : 0 < b := by
        rcases Nat.eq_zero_or_pos b with h0 | h0
        · exfalso; have := HVe.out; rw [h0, Nat.zero_mul] at this; omega
        · exact h0
      have hquo : val Q = a / b := by
        have h1 : val Q = AA / V := by
          rw [← hval, Nat.add_mul_div_left _ _ hVp, Nat.div_eq_of_lt hsm, Nat.zero_add]
        rw [h1, HAe.out, HVe.out, Nat.mul_div_mul_right _ _ (Nat.two_pow_pos s)]
      have hrem : val U / 2 ^ s = a % b := by
        have h1 : val U = AA % V := by
          rw [← hval, Nat.add_mul_mod_self_left, Nat.mod_eq_of_lt hsm]
        rw [h1, HAe.out, HVe.out, Nat.mul_mod_mul_right, Nat.mul_div_cancel _ (Nat.two_pow_pos s)]
      have hRQ : Rd .u32 143 wr (.slice (some ⟨gq, 0, none⟩) mq mq) Q := by
        have hlq : Q.length = mq := by have := hK.out.lq; have := HQN.out; omega
        have := Rd.whole hQ (by rw [hlq]; unfold maxLen; omega)
        rwa [hlq] at this
      have hRU : Rd .u32 143 wr (.slice (some ⟨gu, 0, none⟩) (N + 1) (N + 1)) U := by
        have := Rd.whole hU (by rw [hK.out.lu]; unfold maxLen; omega)
        rwa [hK.out.lu] at this
      have hRQ := Lib.hid hRQ
      have hRU := Lib.hid hRU
      have hquo := Lib.hid hquo
      have hrem := Lib.hid hrem
      clear hval hsm
      go_wp2_with fail
      refine (cut_any _ Q wr hRQ.out hK.out.sq).mono ?_
      rintro e w6 ⟨vq, rfl, hvq, rfl⟩
      have hvq := Lib.hid hvq
      go_wp2_with fail
      refine (cut_any _ U wr hRU.out hK.out.su).mono ?_
      rintro e w6 ⟨vu, rfl, hvu, rfl⟩
      have hvu := Lib.hid hvu
      go_wp2_with fail
      refine (right_any _ (val U) s _ hvu.out ?_ (by omega)).mono ?_
      · have h1 := val_lt hK.out.su
        rw [hK.out.lu] at h1
        have := dg_len_le_of_lt h1
        omega
      rintro e w7 ⟨vr, rfl, hvr, hb7⟩
      have hvr := Lib.hid hvr
      have hb7 := Lib.hid hb7
      go_wp2
      go_ret2
      refine ⟨vq, vr, rfl, ?_, by rw [← hrem.out]; exact hvr.out, ?_⟩
      · rw [← hquo.out]; exact hvq.out.below hb7.out
      · have hs2 := hB2.out.size
        exact (hB2.out.trans (hB.mono (by rw [← HGU.out]; exact hs2))).trans (hb7.out.mono (by have := hB.size; omega))

/-- digits.over: the quotient and the rest. -/
theorem over_any (va vb : Value) (a b : Nat) (w : World) (ha : Dg w va a) (hb : Dg w vb b) (h0 : 0 < b) (hlen : (dg a).length ≤ 1073741823) :
    Calls Try.prog 106 #[va, vb] w (RetOver a b w) := by
  rcases Nat.lt_or_ge a b with h | h
  · exact over_less va vb a b w ha hb h
  · have hl := dg_len_pos h0
    by_cases h1 : (dg b).length = 1
    · exact over_one va vb a b w ha hb h h1 (by omega)
    · exact over_long va vb a b w ha hb h (by omega) hlen
end Go.Proofs.Ytciafmnideihjaa
