import Derived.Scope
import Derived.WalkMore
import Derived.Test.YtnaadajcehfmiaaGreatDoorLxA
import Derived.Test.YtnaadajcehfmiaaGreatDoorShelf
/- A scope with several labels that the run jumps to, ahead and back. -/
namespace Go.Proofs.YtnaadajcehfmiaaGreatDoor
open Go

/-- As Q; by a goto: J of its label. -/
def jumpsE (J : Nat → Act → World → Prop) (Q : Exit → Act → World → Prop) : Exit → Act → World → Prop
  | .goto l, a, w => J l a w
  | e, a, w => Q e a w
section
variable {P : Program} {a : Act} {w : World} {Q : Exit → Act → World → Prop} {J : Nat → Act → World → Prop}
theorem wp_scope_many {c : Code} (J : Nat → Nat → Act → World → Prop)
    (pass : ∀ n l a w, J n l a w → ∃ rest, findLabel c l = some rest ∧ rest.wp P (jumpsE (fun l' a' w' => ∃ m, m < n ∧ J m l' a' w') Q) a w)
    (first : c.wp P (jumpsE (fun l a w => ∃ n, J n l a w) Q) a w) : (Code.scope c).wp P Q a w := by
  intro b k cs
  have key : ∀ n l a w, J n l a w → ∃ rest, findLabel c l = some rest ∧ ∃ e a' w', Q e a' w' ∧ Arrives P (lone (b.at a (.code rest :: .inScope c :: k)) cs w) b k cs e a' w' := by
    intro n
    induction n using Nat.strongRecOn with
    | _ n ih =>
      intro l a w hJ
      obtain ⟨rest, hf, hw⟩ := pass n l a w hJ
      refine ⟨rest, hf, ?_⟩
      obtain ⟨e, a₁, w₁, hq, harr⟩ := hw b (.inScope c :: k) cs
      cases e with
      | normal => exact ⟨.normal, a₁, w₁, hq, Steps.trans harr (.one step_inScope)⟩
      | exit id => exact ⟨.exit id, a₁, w₁, hq, fun k' hk => harr k' (by simp [exitTo, hk])⟩
      | goto l' =>
        obtain ⟨m, hlt, hJ'⟩ := hq
        obtain ⟨rest', hf', e₂, a₂, w₂, hq₂, harr₂⟩ := ih m hlt l' a₁ w₁ hJ'
        exact ⟨e₂, a₂, w₂, hq₂, .of_steps (harr _ (show gotoIn l' (.inScope c :: k) = some (.code rest' :: .inScope c :: k) by simp [gotoIn, hf'])) harr₂⟩
      | ret => exact ⟨_, a₁, w₁, hq, harr⟩
      | panic ch => exact ⟨_, a₁, w₁, hq, harr⟩
      | outgrown => exact ⟨_, a₁, w₁, hq, harr⟩
  obtain ⟨e, a₁, w₁, hq, harr⟩ := first b (.inScope c :: k) cs
  cases e with
  | normal => exact ⟨.normal, a₁, w₁, hq, .head step_scope (Steps.trans harr (.one step_inScope))⟩
  | exit id => exact ⟨.exit id, a₁, w₁, hq, fun k' hk => .head step_scope (harr k' (by simp [exitTo, hk]))⟩
  | goto l' =>
    obtain ⟨n, hJ'⟩ := hq
    obtain ⟨rest', hf', e₂, a₂, w₂, hq₂, harr₂⟩ := key n l' a₁ w₁ hJ'
    exact ⟨e₂, a₂, w₂, hq₂, .of_steps (.head step_scope (harr _ (show gotoIn l' (.inScope c :: k) = some (.code rest' :: .inScope c :: k) by simp [gotoIn, hf']))) harr₂⟩
  | ret => exact ⟨_, a₁, w₁, hq, .of_steps (.one step_scope) harr⟩
  | panic ch => exact ⟨_, a₁, w₁, hq, .of_steps (.one step_scope) harr⟩
  | outgrown => exact ⟨_, a₁, w₁, hq, .of_steps (.one step_scope) harr⟩
end
end Go.Proofs.YtnaadajcehfmiaaGreatDoor
/- lang, filigreeref11: digit, letter. -/
namespace Go.Proofs.YtnaadajcehfmiaaGreatDoor
open Go.RowKit

theorem digit_any (b : Nat) (w : World) : Calls Tryz.prog 38 #[.int .u8 (b : Int)] w (fun e w' => e = .returned (.bool (digB b)) ∧ w' = w) := by
  by_cases h1 : (48 : Int) ≤ (b : Int)
  · by_cases h2 : (b : Int) ≤ 57
    · have h : digB b = true := by unfold digB; exact decide_eq_true (by omega)
      rw [h]
      go_enter Tryz.func38, Tryz.ntmps38
      go_wp2_with fail
      go_ret
      exact ⟨rfl, rfl⟩
    · have h : digB b = false := by unfold digB; exact decide_eq_false (by omega)
      rw [h]
      go_enter Tryz.func38, Tryz.ntmps38
      go_wp2_with fail
      go_ret
      exact ⟨rfl, rfl⟩
  · have h : digB b = false := by unfold digB; exact decide_eq_false (by omega)
    rw [h]
    go_enter Tryz.func38, Tryz.ntmps38
    go_wp2_with fail
    go_ret
    exact ⟨rfl, rfl⟩
theorem letter_any (b : Nat) (w : World) : Calls Tryz.prog 39 #[.int .u8 (b : Int)] w (fun e w' => e = .returned (.bool (letB b)) ∧ w' = w) := by
  by_cases h1 : (97 : Int) ≤ (b : Int)
  · by_cases h2 : (b : Int) ≤ 122
    · have h : letB b = true := by unfold letB; exact decide_eq_true (by omega)
      rw [h]
      go_enter Tryz.func39, Tryz.ntmps39
      go_wp2_with fail
      go_ret
      exact ⟨rfl, rfl⟩
    · have h : letB b = false := by unfold letB; exact decide_eq_false (by omega)
      rw [h]
      go_enter Tryz.func39, Tryz.ntmps39
      go_wp2_with fail
      go_ret
      exact ⟨rfl, rfl⟩
  · have h : letB b = false := by unfold letB; exact decide_eq_false (by omega)
    rw [h]
    go_enter Tryz.func39, Tryz.ntmps39
    go_wp2_with fail
    go_ret
    exact ⟨rfl, rfl⟩
theorem rdigit_any (b : Nat) (w : World) : Calls Tryz.prog 43 #[.int .u8 (b : Int)] w (fun e w' => e = .returned (.bool (digB b)) ∧ w' = w) := by
  by_cases h1 : (48 : Int) ≤ (b : Int)
  · by_cases h2 : (b : Int) ≤ 57
    · have h : digB b = true := by unfold digB; exact decide_eq_true (by omega)
      rw [h]
      go_enter Tryz.func43, Tryz.ntmps43
      go_wp2_with fail
      go_ret
      exact ⟨rfl, rfl⟩
    · have h : digB b = false := by unfold digB; exact decide_eq_false (by omega)
      rw [h]
      go_enter Tryz.func43, Tryz.ntmps43
      go_wp2_with fail
      go_ret
      exact ⟨rfl, rfl⟩
  · have h : digB b = false := by unfold digB; exact decide_eq_false (by omega)
    rw [h]
    go_enter Tryz.func43, Tryz.ntmps43
    go_wp2_with fail
    go_ret
    exact ⟨rfl, rfl⟩
theorem rletter_any (b : Nat) (w : World) : Calls Tryz.prog 45 #[.int .u8 (b : Int)] w (fun e w' => e = .returned (.bool (letB b)) ∧ w' = w) := by
  by_cases h1 : (97 : Int) ≤ (b : Int)
  · by_cases h2 : (b : Int) ≤ 122
    · have h : letB b = true := by unfold letB; exact decide_eq_true (by omega)
      rw [h]
      go_enter Tryz.func45, Tryz.ntmps45
      go_wp2_with fail
      go_ret
      exact ⟨rfl, rfl⟩
    · have h : letB b = false := by unfold letB; exact decide_eq_false (by omega)
      rw [h]
      go_enter Tryz.func45, Tryz.ntmps45
      go_wp2_with fail
      go_ret
      exact ⟨rfl, rfl⟩
  · have h : letB b = false := by unfold letB; exact decide_eq_false (by omega)
    rw [h]
    go_enter Tryz.func45, Tryz.ntmps45
    go_wp2_with fail
    go_ret
    exact ⟨rfl, rfl⟩
end Go.Proofs.YtnaadajcehfmiaaGreatDoor
/- lang: scan. -/
namespace Go.Proofs.YtnaadajcehfmiaaGreatDoor
open Go.RowKit

/-- The scope of a body. -/
def scopeOf : Code → Option Code
  | .scope c => some c
  | .seq a b => match scopeOf a with
    | some c => some c
    | none => scopeOf b
  | _ => none
noncomputable def scanC : Code := (Tryz.f20.body.bind scopeOf).getD .skip
noncomputable def scanL (l : Nat) : Code := (findLabel scanC l).getD .skip
def tailOf : Code → Code
  | .seq _ x => x
  | c => c
noncomputable def scanX : Code := tailOf (scanL 0)
theorem scanL0 : findLabel scanC 0 = some (.seq .skip scanX) := by kernel_rfl
theorem scanL1 : findLabel scanC 1 = some (scanL 1) := by kernel_rfl
theorem scanL2 : findLabel scanC 2 = some (scanL 2) := by kernel_rfl
theorem scanL3 : findLabel scanC 3 = some (scanL 3) := by kernel_rfl
theorem scan_letters (t : Array Value) (h : t.size = 185) : t = #[t[0]!, t[1]!, t[2]!, t[3]!, t[4]!, t[5]!, t[6]!, t[7]!, t[8]!, t[9]!, t[10]!, t[11]!, t[12]!, t[13]!, t[14]!, t[15]!, t[16]!, t[17]!, t[18]!, t[19]!, t[20]!, t[21]!, t[22]!, t[23]!, t[24]!, t[25]!, t[26]!, t[27]!, t[28]!, t[29]!, t[30]!, t[31]!, t[32]!, t[33]!, t[34]!, t[35]!, t[36]!, t[37]!, t[38]!, t[39]!, t[40]!, t[41]!, t[42]!, t[43]!, t[44]!, t[45]!, t[46]!, t[47]!, t[48]!, t[49]!, t[50]!, t[51]!, t[52]!, t[53]!, t[54]!, t[55]!, t[56]!, t[57]!, t[58]!, t[59]!, t[60]!, t[61]!, t[62]!, t[63]!, t[64]!, t[65]!, t[66]!, t[67]!, t[68]!, t[69]!, t[70]!, t[71]!, t[72]!, t[73]!, t[74]!, t[75]!, t[76]!, t[77]!, t[78]!, t[79]!, t[80]!, t[81]!, t[82]!, t[83]!, t[84]!, t[85]!, t[86]!, t[87]!, t[88]!, t[89]!, t[90]!, t[91]!, t[92]!, t[93]!, t[94]!, t[95]!, t[96]!, t[97]!, t[98]!, t[99]!, t[100]!, t[101]!, t[102]!, t[103]!, t[104]!, t[105]!, t[106]!, t[107]!, t[108]!, t[109]!, t[110]!, t[111]!, t[112]!, t[113]!, t[114]!, t[115]!, t[116]!, t[117]!, t[118]!, t[119]!, t[120]!, t[121]!, t[122]!, t[123]!, t[124]!, t[125]!, t[126]!, t[127]!, t[128]!, t[129]!, t[130]!, t[131]!, t[132]!, t[133]!, t[134]!, t[135]!, t[136]!, t[137]!, t[138]!, t[139]!, t[140]!, t[141]!, t[142]!, t[143]!, t[144]!, t[145]!, t[146]!, t[147]!, t[148]!, t[149]!, t[150]!, t[151]!, t[152]!, t[153]!, t[154]!, t[155]!, t[156]!, t[157]!, t[158]!, t[159]!, t[160]!, t[161]!, t[162]!, t[163]!, t[164]!, t[165]!, t[166]!, t[167]!, t[168]!, t[169]!, t[170]!, t[171]!, t[172]!, t[173]!, t[174]!, t[175]!, t[176]!, t[177]!, t[178]!, t[179]!, t[180]!, t[181]!, t[182]!, t[183]!, t[184]!] := by
  have e : t = ((List.range 185).map fun i => t[i]!).toArray := by
    apply Array.ext'
    refine List.ext_getElem? fun i => ?_
    rw [List.toList_toArray, List.getElem?_map, Array.getElem?_toList]
    rcases Nat.lt_or_ge i 185 with hi | hi
    · rw [List.getElem?_range hi, Array.getElem?_eq_getElem (by omega)]
      exact congrArg some (getElem!_pos t i (by omega)).symm
    · rw [List.getElem?_eq_none (by simpa using hi), Array.getElem?_eq_none (by omega)]; rfl
  exact e

/-- What holds at a label. -/
def ScanJ (s : ByteArray) (k0 : Nat) (w : World) (n l : Nat) (a : Act) (w' : World) : Prop :=
  ∃ k : Nat, w' = w ∧ a.defers = [] ∧ a.tmps.size = 185 ∧ a.tmps[0]? = some (.string s) ∧ a.tmps[1]? = some (.int .i64 (k : Int)) ∧ a.tmps[7]? = some (.int .i64 0) ∧ k ≤ s.size ∧
    ((l = 0 ∧ n = 2 * (s.size - k) + 1 ∧ skipT false (sl s) k = skipT false (sl s) k0) ∨
     (l = 1 ∧ n = 2 * (s.size - k) ∧ (sl s)[k]? = some 35 ∧ skipT false (sl s) k = skipT false (sl s) k0) ∨
     (l = 2 ∧ n = 0 ∧ a.tmps[4]? = some (.int .i64 (k : Int)) ∧ skipT false (sl s) k0 = k ∧ ∃ b, (sl s)[k]? = some b ∧ digB b = true) ∨
     (l = 3 ∧ n = 0 ∧ a.tmps[4]? = some (.int .i64 (k : Int)) ∧ skipT false (sl s) k0 = k ∧ ∃ b, (sl s)[k]? = some b ∧ digB b = false ∧ letB b = true))
/-- Where scan stands when no token begins at i. -/
def badT (s : List Nat) (i : Nat) : Nat :=
  match s[i]? with
  | none => i
  | some b => if digB b then (match fracT s (runT digB s i) with | none => i | some m => runT digB s (sigT s (m + 1))) else if letB b then runT wrdB s i else i
theorem badT_le {s : List Nat} {i : Nat} (hi : i ≤ s.length) (ht : tokT s i = none) : badT s i ≤ s.length := by
  unfold badT
  unfold tokT at ht
  rcases hb : s[i]? with _ | b
  · rw [hb] at ht; cases ht
  · rw [hb] at ht
    simp only at ht ⊢
    split
    · rename_i hd
      rw [if_pos hd, numT] at ht
      rcases hf : fracT s (runT digB s i) with _ | m
      · exact hi
      · rw [hf] at ht
        have ht : expT s m = none := ht
        simp only
        unfold expT at ht
        split at ht
        · rename_i h1
          exact runT_le (sigT_le (lt_of_some h1))
        · cases ht
    · split
      · exact runT_le hi
      · exact hi
/-- What scan tells. -/
def ScanR (s : ByteArray) (k0 : Nat) (v4 v5 v6 : Value) : Prop :=
  v4 = .int .i64 (skipT false (sl s) k0 : Int) ∧ ((∃ m, tokT (sl s) (skipT false (sl s) k0) = some m ∧ v5 = .int .i64 (m : Int) ∧ v6 = .bool true) ∨ (tokT (sl s) (skipT false (sl s) k0) = none ∧ v5 = .int .i64 (badT (sl s) (skipT false (sl s) k0) : Int) ∧ v6 = .bool false))

theorem byte_at {s : ByteArray} {k b : Nat} (h : (sl s)[k]? = some b) : ∃ hk : k < s.size, s[k].toNat = b := by
  have hk : k < s.size := by rw [← sl_len]; exact lt_of_some h
  have h2 := sl_get s k hk
  rw [h] at h2
  exact ⟨hk, (Option.some.inj h2).symm⟩
theorem sl_none {s : ByteArray} : (sl s)[s.size]? = none := List.getElem?_eq_none (by rw [sl_len]; exact Nat.le_refl _)
theorem bang_of {t : Array Value} {i : Nat} {v : Value} (h : t[i]? = some v) : t[i]! = v := by
  obtain ⟨hi, e⟩ := Array.getElem?_eq_some_iff.1 h
  rw [getElem!_pos t i hi, e]

theorem jumps_weak {P : Program} {c : Code} {J J' : Nat → Act → World → Prop} {Q : Exit → Act → World → Prop} {a : Act} {w : World} (h : c.wp P (jumpsE J Q) a w) (hj : ∀ l a w, J l a w → J' l a w) : c.wp P (jumpsE J' Q) a w :=
  wp_mono h (fun e a' w' h => by
    cases e with
    | goto l => exact hj _ _ _ h
    | normal => exact h
    | exit id => exact h
    | ret => exact h
    | panic ch => exact h
    | outgrown => exact h)
/-- A test that holds just if P does. -/
def BIff (b : Bool) (P : Prop) : Prop := b = true ↔ P
theorem sgn_index {c : Nat} (h : c < 256) : sgnB c = decide (0 ≤ Lib.indexByte [43, 45, 42, 47, 94, 40, 41, 61, 59] ((c : Int).toNat.toUInt8)) := by
  have key : ∀ c : Fin 256, sgnB c.1 = decide (0 ≤ Lib.indexByte [43, 45, 42, 47, 94, 40, 41, 61, 59] (c.1.toUInt8)) := by decide +kernel
  exact key ⟨c, h⟩

set_option maxRecDepth 100000 in
set_option maxHeartbeats 4000000 in
theorem scan_note (s : ByteArray) (k0 k n : Nat) (w : World) (hmax : s.size ≤ 1099511627776) (Q : Exit → Act → World → Prop)
    (hQ : ∀ (t : Array Value) (v4 v5 v6 : Value), t[4]? = some v4 → t[5]? = some v5 → t[6]? = some v6 → ScanR s k0 v4 v5 v6 → Q .ret ⟨t, []⟩ w)
    (hk : k ≤ s.size) (hn : n = 2 * (s.size - k)) (h35 : (sl s)[k]? = some 35) (hsk : skipT false (sl s) k = skipT false (sl s) k0)
    (c2 c3 c4 c5 c6 c8 c9 c10 c11 c12 c13 c14 c15 c16 c17 c18 c19 c20 c21 c22 c23 c24 c25 c26 c27 c28 c29 c30 c31 c32 c33 c34 c35 c36 c37 c38 c39 c40 c41 c42 c43 c44 c45 c46 c47 c48 c49 c50 c51 c52 c53 c54 c55 c56 c57 c58 c59 c60 c61 c62 c63 c64 c65 c66 c67 c68 c69 c70 c71 c72 c73 c74 c75 c76 c77 c78 c79 c80 c81 c82 c83 c84 c85 c86 c87 c88 c89 c90 c91 c92 c93 c94 c95 c96 c97 c98 c99 c100 c101 c102 c103 c104 c105 c106 c107 c108 c109 c110 c111 c112 c113 c114 c115 c116 c117 c118 c119 c120 c121 c122 c123 c124 c125 c126 c127 c128 c129 c130 c131 c132 c133 c134 c135 c136 c137 c138 c139 c140 c141 c142 c143 c144 c145 c146 c147 c148 c149 c150 c151 c152 c153 c154 c155 c156 c157 c158 c159 c160 c161 c162 c163 c164 c165 c166 c167 c168 c169 c170 c171 c172 c173 c174 c175 c176 c177 c178 c179 c180 c181 c182 c183 c184 : Value) :
    (scanL 1).wp Tryz.prog (jumpsE (fun l' a' w' => ∃ m, m < n ∧ ScanJ s k0 w m l' a' w') Q) ⟨#[.string s, .int .i64 (k : Int), c2, c3, c4, c5, c6, .int .i64 0, c8, c9, c10, c11, c12, c13, c14, c15, c16, c17, c18, c19, c20, c21, c22, c23, c24, c25, c26, c27, c28, c29, c30, c31, c32, c33, c34, c35, c36, c37, c38, c39, c40, c41, c42, c43, c44, c45, c46, c47, c48, c49, c50, c51, c52, c53, c54, c55, c56, c57, c58, c59, c60, c61, c62, c63, c64, c65, c66, c67, c68, c69, c70, c71, c72, c73, c74, c75, c76, c77, c78, c79, c80, c81, c82, c83, c84, c85, c86, c87, c88, c89, c90, c91, c92, c93, c94, c95, c96, c97, c98, c99, c100, c101, c102, c103, c104, c105, c106, c107, c108, c109, c110, c111, c112, c113, c114, c115, c116, c117, c118, c119, c120, c121, c122, c123, c124, c125, c126, c127, c128, c129, c130, c131, c132, c133, c134, c135, c136, c137, c138, c139, c140, c141, c142, c143, c144, c145, c146, c147, c148, c149, c150, c151, c152, c153, c154, c155, c156, c157, c158, c159, c160, c161, c162, c163, c164, c165, c166, c167, c168, c169, c170, c171, c172, c173, c174, c175, c176, c177, c178, c179, c180, c181, c182, c183, c184], []⟩ w := by
  unfold scanL
  conv => arg 2; whnf
  replace hQ := Lib.hid hQ
  have hk35 : k < s.size := (byte_at h35).1
  have hs35 := skipT_note h35
  replace hn := Lib.hid hn
  replace hsk := Lib.hid hsk
  replace h35 := Lib.hid h35
  replace hs35 := Lib.hid hs35
  go_wp2_with fail
  go_loopg [1] (s.size - k) (fun g v wr => ∃ j : Nat, v = .int .i64 (j : Int) ∧ w = wr ∧ s.size - j ≤ g ∧ k ≤ j ∧ j ≤ s.size ∧ skipT true (sl s) j = skipT true (sl s) k)
  case atStart => exact ⟨k, rfl, rfl, Nat.le_refl _, Nat.le_refl _, hk, rfl⟩
  case round =>
    obtain ⟨j, rfl, rfl, hg, hkj, hj, hsj⟩ := hrel
    replace hsj := Lib.hid hsj
    by_cases hlo : j < s.size
    · obtain ⟨c, hc⟩ : ∃ c, c = (s[j]'hlo).toNat := ⟨_, rfl⟩
      have hcx : (((s[j]'hlo).toNat : Nat) : Int) = (c : Int) := by rw [hc]
      have hb : Hid ((sl s)[j]? = some c) := Lib.hid (by rw [sl_get s j hlo, hc])
      have hloI : (j : Int) < (s.size : Int) := by omega
      replace hc := Lib.hid hc
      by_cases h10 : c = 10
      · have h10I : ((c : Int) != 10) = false := by rw [h10]; rfl
        have hnl := Lib.hid (skipT_nl (s := sl s) (i := j) (by rw [hb.out, h10]))
        have hjk : k ≠ j := fun e => by
          have h1 := h35.out
          rw [e, hb.out, h10] at h1
          injection h1 with h1
          omega
        clear h10
        go_wp2_with fail
        refine wp_goto ?_
        show ∃ m, m < n ∧ ScanJ s k0 _ m 0 _ _
        exact ⟨2 * (s.size - j) + 1, by rw [hn.out]; omega, j, rfl, rfl, rfl, rfl, rfl, rfl, hj, .inl ⟨rfl, rfl, by rw [← hnl.out, hsj.out, ← hs35.out, hsk.out]⟩⟩
      · have h10I : ((c : Int) != 10) = true := by rw [bne_iff_ne]; omega
        have hin := Lib.hid (skipT_in hb.out h10)
        clear h10
        go_wp2_with fail
        go_roundg (s.size - (j + 1))
        case measure => omega
        case rel => exact ⟨j + 1, by simp, rfl, Nat.le_refl _, by omega, by omega, by rw [← hin.out, hsj.out]⟩
    · obtain rfl : j = s.size := by omega
      have hloI : ¬ ((s.size : Nat) : Int) < (s.size : Int) := by omega
      have he := Lib.hid ((skipT_end (nt := true) (sl_none (s := s))).trans (skipT_end (nt := false) (sl_none (s := s))).symm)
      go_wp2_with fail
      refine wp_goto ?_
      show ∃ m, m < n ∧ ScanJ s k0 _ m 0 _ _
      exact ⟨2 * (s.size - s.size) + 1, by rw [hn.out]; omega, s.size, rfl, rfl, rfl, rfl, rfl, rfl, hj, .inl ⟨rfl, rfl, by rw [← he.out, hsj.out, ← hs35.out, hsk.out]⟩⟩

set_option maxRecDepth 100000 in
set_option maxHeartbeats 4000000 in
theorem scan_blanks (s : ByteArray) (k0 k n : Nat) (w : World) (hmax : s.size ≤ 1099511627776) (Q : Exit → Act → World → Prop)
    (hQ : ∀ (t : Array Value) (v4 v5 v6 : Value), t[4]? = some v4 → t[5]? = some v5 → t[6]? = some v6 → ScanR s k0 v4 v5 v6 → Q .ret ⟨t, []⟩ w)
    (hk : k ≤ s.size) (hn : n = 2 * (s.size - k) + 1) (hsk : skipT false (sl s) k = skipT false (sl s) k0)
    (c2 c3 c4 c5 c6 c8 c9 c10 c11 c12 c13 c14 c15 c16 c17 c18 c19 c20 c21 c22 c23 c24 c25 c26 c27 c28 c29 c30 c31 c32 c33 c34 c35 c36 c37 c38 c39 c40 c41 c42 c43 c44 c45 c46 c47 c48 c49 c50 c51 c52 c53 c54 c55 c56 c57 c58 c59 c60 c61 c62 c63 c64 c65 c66 c67 c68 c69 c70 c71 c72 c73 c74 c75 c76 c77 c78 c79 c80 c81 c82 c83 c84 c85 c86 c87 c88 c89 c90 c91 c92 c93 c94 c95 c96 c97 c98 c99 c100 c101 c102 c103 c104 c105 c106 c107 c108 c109 c110 c111 c112 c113 c114 c115 c116 c117 c118 c119 c120 c121 c122 c123 c124 c125 c126 c127 c128 c129 c130 c131 c132 c133 c134 c135 c136 c137 c138 c139 c140 c141 c142 c143 c144 c145 c146 c147 c148 c149 c150 c151 c152 c153 c154 c155 c156 c157 c158 c159 c160 c161 c162 c163 c164 c165 c166 c167 c168 c169 c170 c171 c172 c173 c174 c175 c176 c177 c178 c179 c180 c181 c182 c183 c184 : Value) :
    scanX.wp Tryz.prog (jumpsE (fun l' a' w' => ∃ m, m < n ∧ ScanJ s k0 w m l' a' w') Q) ⟨#[.string s, .int .i64 (k : Int), c2, c3, c4, c5, c6, .int .i64 0, c8, c9, c10, c11, c12, c13, c14, c15, c16, c17, c18, c19, c20, c21, c22, c23, c24, c25, c26, c27, c28, c29, c30, c31, c32, c33, c34, c35, c36, c37, c38, c39, c40, c41, c42, c43, c44, c45, c46, c47, c48, c49, c50, c51, c52, c53, c54, c55, c56, c57, c58, c59, c60, c61, c62, c63, c64, c65, c66, c67, c68, c69, c70, c71, c72, c73, c74, c75, c76, c77, c78, c79, c80, c81, c82, c83, c84, c85, c86, c87, c88, c89, c90, c91, c92, c93, c94, c95, c96, c97, c98, c99, c100, c101, c102, c103, c104, c105, c106, c107, c108, c109, c110, c111, c112, c113, c114, c115, c116, c117, c118, c119, c120, c121, c122, c123, c124, c125, c126, c127, c128, c129, c130, c131, c132, c133, c134, c135, c136, c137, c138, c139, c140, c141, c142, c143, c144, c145, c146, c147, c148, c149, c150, c151, c152, c153, c154, c155, c156, c157, c158, c159, c160, c161, c162, c163, c164, c165, c166, c167, c168, c169, c170, c171, c172, c173, c174, c175, c176, c177, c178, c179, c180, c181, c182, c183, c184], []⟩ w := by
  unfold scanX
  conv => arg 2; whnf
  replace hQ := Lib.hid hQ
  replace hn := Lib.hid hn
  replace hsk := Lib.hid hsk
  by_cases hlo : k < s.size
  case neg =>
    obtain rfl : k = s.size := by omega
    have hE : ((((s.size : Nat) : Int)) == (s.size : Int)) = true := by simp
    have hS := Lib.hid ((hsk.out.symm.trans (skipT_end (sl_none (s := s)))))
    go_wp2_with fail
    show Q .ret _ _
    exact hQ.out _ _ _ _ rfl rfl rfl (by
        refine ⟨by rw [hS.out]; rfl, .inl ⟨s.size, ?_, rfl, rfl⟩⟩
        rw [hS.out, tokT, sl_none])
  case pos =>
    obtain ⟨c, hc⟩ : ∃ c, c = (s[k]'hlo).toNat := ⟨_, rfl⟩
    have hc9 : c < 256 := by rw [hc]; exact (s[k]'hlo).toNat_lt
    have hcx : (((s[k]'hlo).toNat : Nat) : Int) = (c : Int) := by rw [hc]
    have hb : Hid ((sl s)[k]? = some c) := Lib.hid (by rw [sl_get s k hlo, hc])
    have hloI : (k : Int) < (s.size : Int) := by omega
    have hE : ((k : Int) == (s.size : Int)) = false := by rw [beq_eq_false_iff_ne]; omega
    have hw1 : Hid (IntKind.i64.wrap ((k : Int) + 1) = (k : Int) + 1) := Lib.hid (by rw [IntKind.wrap_i64]; omega)
    replace hc := Lib.hid hc
    by_cases hx32 : c = 32
    case pos =>
      have hI : ((c : Int) == 32) = true := by rw [hx32]; rfl
      have hbl := Lib.hid (skipT_blk hb.out (by rw [hx32]; rfl))
      clear hx32 
      go_wp2_with fail
      refine wp_goto ?_
      show ∃ m, m < n ∧ ScanJ s k0 _ m 0 _ _
      exact ⟨2 * (s.size - (k + 1)) + 1, by rw [hn.out]; omega, k + 1, rfl, rfl, rfl, rfl, rfl, rfl, by omega, .inl ⟨rfl, rfl, by rw [← hbl.out, hsk.out]⟩⟩
    case neg =>
      have hI32 : ((c : Int) == 32) = false := by rw [beq_eq_false_iff_ne]; omega
      by_cases hx9 : c = 9
      case pos =>
        have hI : ((c : Int) == 9) = true := by rw [hx9]; rfl
        have hbl := Lib.hid (skipT_blk hb.out (by rw [hx9]; rfl))
        clear hx9 hx32
        go_wp2_with fail
        refine wp_goto ?_
        show ∃ m, m < n ∧ ScanJ s k0 _ m 0 _ _
        exact ⟨2 * (s.size - (k + 1)) + 1, by rw [hn.out]; omega, k + 1, rfl, rfl, rfl, rfl, rfl, rfl, by omega, .inl ⟨rfl, rfl, by rw [← hbl.out, hsk.out]⟩⟩
      case neg =>
        have hI9 : ((c : Int) == 9) = false := by rw [beq_eq_false_iff_ne]; omega
        by_cases hx10 : c = 10
        case pos =>
          have hI : ((c : Int) == 10) = true := by rw [hx10]; rfl
          have hbl := Lib.hid (skipT_blk hb.out (by rw [hx10]; rfl))
          clear hx10 hx32 hx9
          go_wp2_with fail
          refine wp_goto ?_
          show ∃ m, m < n ∧ ScanJ s k0 _ m 0 _ _
          exact ⟨2 * (s.size - (k + 1)) + 1, by rw [hn.out]; omega, k + 1, rfl, rfl, rfl, rfl, rfl, rfl, by omega, .inl ⟨rfl, rfl, by rw [← hbl.out, hsk.out]⟩⟩
        case neg =>
          have hI10 : ((c : Int) == 10) = false := by rw [beq_eq_false_iff_ne]; omega
          by_cases hx13 : c = 13
          case pos =>
            have hI : ((c : Int) == 13) = true := by rw [hx13]; rfl
            have hbl := Lib.hid (skipT_blk hb.out (by rw [hx13]; rfl))
            clear hx13 hx32 hx9 hx10
            go_wp2_with fail
            refine wp_goto ?_
            show ∃ m, m < n ∧ ScanJ s k0 _ m 0 _ _
            exact ⟨2 * (s.size - (k + 1)) + 1, by rw [hn.out]; omega, k + 1, rfl, rfl, rfl, rfl, rfl, rfl, by omega, .inl ⟨rfl, rfl, by rw [← hbl.out, hsk.out]⟩⟩
          case neg =>
            have hI13 : ((c : Int) == 13) = false := by rw [beq_eq_false_iff_ne]; omega
            by_cases hx35 : c = 35
            case pos =>
              have hI : ((c : Int) == 35) = true := by rw [hx35]; rfl
              have h35 : Hid ((sl s)[k]? = some 35) := Lib.hid (by rw [hb.out, hx35])
              clear hx35 hx32 hx9 hx10 hx13
              go_wp2_with fail
              refine wp_goto ?_
              show ∃ m, m < n ∧ ScanJ s k0 _ m 1 _ _
              exact ⟨2 * (s.size - k), by rw [hn.out]; omega, k, rfl, rfl, rfl, rfl, rfl, rfl, by omega, .inr (.inl ⟨rfl, rfl, h35.out, hsk.out⟩)⟩
            case neg =>
              have hI35 : ((c : Int) == 35) = false := by rw [beq_eq_false_iff_ne]; omega
              have hst := Lib.hid (skipT_stop hb.out (by simp [blkB, hx32, hx9, hx10, hx13]) hx35)
              have hS : Hid (skipT false (sl s) k0 = k) := Lib.hid (by rw [← hsk.out, hst.out])
              clear hx32 hx9 hx10 hx13 hx35
              by_cases hD : digB c = true
              case pos =>
                have cD : Hid (∀ W, Calls Tryz.prog 38 #[.int .u8 (c : Int)] W (fun e w' => e = .returned (.bool true) ∧ w' = W)) := Lib.hid (fun W => by rw [← hD]; exact digit_any c W)
                replace hD := Lib.hid hD
                go_wp2_with fail
                refine (cD.out _).mono ?_
                rintro en w1 ⟨rfl, rfl⟩
                go_wp2_with fail
                refine wp_goto ?_
                show ∃ m, m < n ∧ ScanJ s k0 _ m 2 _ _
                exact ⟨0, by rw [hn.out]; omega, k, rfl, rfl, rfl, rfl, rfl, rfl, by omega, .inr (.inr (.inl ⟨rfl, rfl, rfl, hS.out, c, hb.out, hD.out⟩))⟩
              case neg =>
                replace hD : digB c = false := by simpa using hD
                have cD : Hid (∀ W, Calls Tryz.prog 38 #[.int .u8 (c : Int)] W (fun e w' => e = .returned (.bool false) ∧ w' = W)) := Lib.hid (fun W => by rw [← hD]; exact digit_any c W)
                replace hD := Lib.hid hD
                by_cases hT : letB c = true
                case pos =>
                  have cT : Hid (∀ W, Calls Tryz.prog 39 #[.int .u8 (c : Int)] W (fun e w' => e = .returned (.bool true) ∧ w' = W)) := Lib.hid (fun W => by rw [← hT]; exact letter_any c W)
                  replace hT := Lib.hid hT
                  go_wp2_with fail
                  refine (cD.out _).mono ?_
                  rintro en w1 ⟨rfl, rfl⟩
                  go_wp2_with fail
                  refine (cT.out _).mono ?_
                  rintro en w1 ⟨rfl, rfl⟩
                  go_wp2_with fail
                  refine wp_goto ?_
                  show ∃ m, m < n ∧ ScanJ s k0 _ m 3 _ _
                  exact ⟨0, by rw [hn.out]; omega, k, rfl, rfl, rfl, rfl, rfl, rfl, by omega, .inr (.inr (.inr ⟨rfl, rfl, rfl, hS.out, c, hb.out, hD.out, hT.out⟩))⟩
                case neg =>
                  replace hT : letB c = false := by simpa using hT
                  have cT : Hid (∀ W, Calls Tryz.prog 39 #[.int .u8 (c : Int)] W (fun e w' => e = .returned (.bool false) ∧ w' = W)) := Lib.hid (fun W => by rw [← hT]; exact letter_any c W)
                  replace hT := Lib.hid hT
                  obtain ⟨ix, hix⟩ : ∃ i, i = Lib.indexByte [43, 45, 42, 47, 94, 40, 41, 61, 59] ((c : Int).toNat.toUInt8) := ⟨_, rfl⟩
                  have cI : Hid (∀ W, Calls Tryz.prog 40 #[.string ⟨#[43, 45, 42, 47, 94, 40, 41, 61, 59]⟩, .int .u8 (c : Int)] W (fun e w' => e = .returned (.int .i64 ix) ∧ w' = W)) := Lib.hid (fun W => by rw [hix]; exact Tryz.strings_IndexByte _ _ W)
                  have hsg : Hid (sgnB c = decide (0 ≤ ix)) := Lib.hid (by rw [hix]; exact sgn_index hc9)
                  clear hix
                  go_wp2_with fail
                  refine (cD.out _).mono ?_
                  rintro en w1 ⟨rfl, rfl⟩
                  go_wp2_with fail
                  refine (cT.out _).mono ?_
                  rintro en w1 ⟨rfl, rfl⟩
                  go_wp2_with fail
                  refine (cI.out _).mono ?_
                  rintro en w1 ⟨rfl, rfl⟩
                  clear cD cT cI
                  by_cases h0 : 0 ≤ ix
                  case pos =>
                    have hsg2 : Hid (sgnB c = true) := Lib.hid (by rw [hsg.out]; exact decide_eq_true h0)
                    have hw1 := hw1.out
                    go_wp2_with fail
                    show Q .ret _ _
                    exact hQ.out _ _ _ _ rfl rfl rfl (by
                        refine ⟨by rw [hS.out]; rfl, .inl ⟨k + 1, ?_, rfl, rfl⟩⟩
                        rw [hS.out, tokT, hb.out]
                        simp [hD.out, hT.out, hsg2.out])
                  case neg =>
                    have hsg2 : Hid (sgnB c = false) := Lib.hid (by rw [hsg.out]; exact decide_eq_false h0)
                    go_wp2_with fail
                    show Q .ret _ _
                    exact hQ.out _ _ _ _ rfl rfl rfl (by
                        refine ⟨by rw [hS.out]; rfl, .inr ⟨?_, ?_, rfl⟩⟩
                        · rw [hS.out, tokT, hb.out]
                          simp [hD.out, hT.out, hsg2.out]
                        · rw [hS.out, badT, hb.out]
                          simp [hD.out, hT.out])

set_option maxRecDepth 100000 in
set_option maxHeartbeats 4000000 in
theorem scan_word (s : ByteArray) (k0 k n : Nat) (w : World) (hmax : s.size ≤ 1099511627776) (Q : Exit → Act → World → Prop)
    (hQ : ∀ (t : Array Value) (v4 v5 v6 : Value), t[4]? = some v4 → t[5]? = some v5 → t[6]? = some v6 → ScanR s k0 v4 v5 v6 → Q .ret ⟨t, []⟩ w)
    (hk : k ≤ s.size) (hS : skipT false (sl s) k0 = k) (hB : ∃ b, (sl s)[k]? = some b ∧ digB b = false ∧ letB b = true)
    (c2 c3 c5 c6 c8 c9 c10 c11 c12 c13 c14 c15 c16 c17 c18 c19 c20 c21 c22 c23 c24 c25 c26 c27 c28 c29 c30 c31 c32 c33 c34 c35 c36 c37 c38 c39 c40 c41 c42 c43 c44 c45 c46 c47 c48 c49 c50 c51 c52 c53 c54 c55 c56 c57 c58 c59 c60 c61 c62 c63 c64 c65 c66 c67 c68 c69 c70 c71 c72 c73 c74 c75 c76 c77 c78 c79 c80 c81 c82 c83 c84 c85 c86 c87 c88 c89 c90 c91 c92 c93 c94 c95 c96 c97 c98 c99 c100 c101 c102 c103 c104 c105 c106 c107 c108 c109 c110 c111 c112 c113 c114 c115 c116 c117 c118 c119 c120 c121 c122 c123 c124 c125 c126 c127 c128 c129 c130 c131 c132 c133 c134 c135 c136 c137 c138 c139 c140 c141 c142 c143 c144 c145 c146 c147 c148 c149 c150 c151 c152 c153 c154 c155 c156 c157 c158 c159 c160 c161 c162 c163 c164 c165 c166 c167 c168 c169 c170 c171 c172 c173 c174 c175 c176 c177 c178 c179 c180 c181 c182 c183 c184 : Value) :
    (scanL 3).wp Tryz.prog (jumpsE (fun l' a' w' => ∃ m, m < n ∧ ScanJ s k0 w m l' a' w') Q) ⟨#[.string s, .int .i64 (k : Int), c2, c3, .int .i64 (k : Int), c5, c6, .int .i64 0, c8, c9, c10, c11, c12, c13, c14, c15, c16, c17, c18, c19, c20, c21, c22, c23, c24, c25, c26, c27, c28, c29, c30, c31, c32, c33, c34, c35, c36, c37, c38, c39, c40, c41, c42, c43, c44, c45, c46, c47, c48, c49, c50, c51, c52, c53, c54, c55, c56, c57, c58, c59, c60, c61, c62, c63, c64, c65, c66, c67, c68, c69, c70, c71, c72, c73, c74, c75, c76, c77, c78, c79, c80, c81, c82, c83, c84, c85, c86, c87, c88, c89, c90, c91, c92, c93, c94, c95, c96, c97, c98, c99, c100, c101, c102, c103, c104, c105, c106, c107, c108, c109, c110, c111, c112, c113, c114, c115, c116, c117, c118, c119, c120, c121, c122, c123, c124, c125, c126, c127, c128, c129, c130, c131, c132, c133, c134, c135, c136, c137, c138, c139, c140, c141, c142, c143, c144, c145, c146, c147, c148, c149, c150, c151, c152, c153, c154, c155, c156, c157, c158, c159, c160, c161, c162, c163, c164, c165, c166, c167, c168, c169, c170, c171, c172, c173, c174, c175, c176, c177, c178, c179, c180, c181, c182, c183, c184], []⟩ w := by
  unfold scanL
  conv => arg 2; whnf
  replace hQ := Lib.hid hQ
  replace hS := Lib.hid hS
  replace hB := Lib.hid hB
  go_upto_block 4 with fail
  go_cut [1] from 58 to 75 (fun s1 wx => ∃ j : Nat, s1 = .int .i64 (j : Int) ∧ w = wx ∧ k ≤ j ∧ j ≤ s.size ∧ Hid (runT wrdB (sl s) k = j))
  case first =>
    go_wp2_with fail
    go_loopg [1] (s.size - k) (fun g v wr => ∃ j : Nat, v = .int .i64 (j : Int) ∧ w = wr ∧ s.size - j ≤ g ∧ k ≤ j ∧ j ≤ s.size ∧ runT wrdB (sl s) j = runT wrdB (sl s) k)
    case atStart => exact ⟨k, rfl, rfl, Nat.le_refl _, Nat.le_refl _, hk, rfl⟩
    case round =>
      obtain ⟨j, rfl, rfl, hg, hkj, hj, hsj⟩ := hrel
      replace hsj := Lib.hid hsj
      by_cases hlo_c : j < s.size
      case neg =>
        obtain rfl : j = s.size := by omega
        have hloI : ¬ ((s.size : Nat) : Int) < (s.size : Int) := by omega
        have he := Lib.hid (runT_end (p := wrdB) (sl_none (s := s)))
        go_wp2_with fail
        go_meet
        case rel => exact ⟨s.size, rfl, rfl, hkj, hj, Lib.hid (by rw [← hsj.out, he.out])⟩
      case pos =>
        have hloI : (j : Int) < (s.size : Int) := by omega
        have hw1 : Hid (IntKind.i64.wrap ((j : Int) + 1) = (j : Int) + 1) := Lib.hid (by rw [IntKind.wrap_i64]; omega)
        obtain ⟨c, hc_c⟩ : ∃ c, c = (s[j]'hlo_c).toNat := ⟨_, rfl⟩
        have hc9_c : c < 256 := by rw [hc_c]; exact (s[j]'hlo_c).toNat_lt
        have hcx_c : (((s[j]'hlo_c).toNat : Nat) : Int) = (c : Int) := by rw [hc_c]
        have hb_c : Hid ((sl s)[j]? = some c) := Lib.hid (by rw [sl_get s (j) hlo_c, hc_c])
        replace hc_c := Lib.hid hc_c
        by_cases hT : letB c = true
        case pos =>
          have cT_c : Hid (∀ W, Calls Tryz.prog 39 #[.int .u8 (c : Int)] W (fun e w' => e = .returned (.bool true) ∧ w' = W)) := Lib.hid (fun W => by rw [← hT]; exact letter_any c W)
          replace hT := Lib.hid hT
          go_wp2_with fail
          refine (cT_c.out _).mono ?_
          rintro en w1 ⟨rfl, hw⟩
          obtain rfl := hw.symm
          clear hw
          have hst := Lib.hid (runT_step (p := wrdB) hb_c.out (by unfold wrdB; rw [hT.out]; rfl))
          have hw1 := hw1.out
          go_wp2_with fail
          go_roundg (s.size - (j + 1))
          case measure => omega
          case rel => exact ⟨j + 1, by simp, rfl, Nat.le_refl _, by omega, by omega, by rw [← hst.out, hsj.out]⟩
        case neg =>
          replace hT : letB c = false := by simpa using hT
          have cT_c : Hid (∀ W, Calls Tryz.prog 39 #[.int .u8 (c : Int)] W (fun e w' => e = .returned (.bool false) ∧ w' = W)) := Lib.hid (fun W => by rw [← hT]; exact letter_any c W)
          replace hT := Lib.hid hT
          by_cases hD : digB c = true
          case pos =>
            have cD_c : Hid (∀ W, Calls Tryz.prog 38 #[.int .u8 (c : Int)] W (fun e w' => e = .returned (.bool true) ∧ w' = W)) := Lib.hid (fun W => by rw [← hD]; exact digit_any c W)
            replace hD := Lib.hid hD
            go_wp2_with fail
            refine (cT_c.out _).mono ?_
            rintro en w1 ⟨rfl, hw⟩
            obtain rfl := hw.symm
            clear hw
            go_wp2_with fail
            refine (cD_c.out _).mono ?_
            rintro en w1 ⟨rfl, hw⟩
            obtain rfl := hw.symm
            clear hw
            have hst := Lib.hid (runT_step (p := wrdB) hb_c.out (by unfold wrdB; rw [hT.out, hD.out]; rfl))
            have hw1 := hw1.out
            go_wp2_with fail
            go_roundg (s.size - (j + 1))
            case measure => omega
            case rel => exact ⟨j + 1, by simp, rfl, Nat.le_refl _, by omega, by omega, by rw [← hst.out, hsj.out]⟩
          case neg =>
            replace hD : digB c = false := by simpa using hD
            have cD_c : Hid (∀ W, Calls Tryz.prog 38 #[.int .u8 (c : Int)] W (fun e w' => e = .returned (.bool false) ∧ w' = W)) := Lib.hid (fun W => by rw [← hD]; exact digit_any c W)
            replace hD := Lib.hid hD
            go_wp2_with fail
            refine (cT_c.out _).mono ?_
            rintro en w1 ⟨rfl, hw⟩
            obtain rfl := hw.symm
            clear hw
            go_wp2_with fail
            refine (cD_c.out _).mono ?_
            rintro en w1 ⟨rfl, hw⟩
            obtain rfl := hw.symm
            clear hw
            have hst := Lib.hid (runT_stop (p := wrdB) hb_c.out (by unfold wrdB; rw [hT.out, hD.out]; rfl))
            go_wp2_with fail
            go_meet
            case rel => exact ⟨j, rfl, rfl, hkj, hj, Lib.hid (by rw [← hsj.out, hst.out])⟩
  obtain ⟨j, rfl, rfl, hkj, hj, hr⟩ := hcut
  have hwk : IntKind.i64.wrap ((j : Int) - (k : Int)) = (j : Int) - (k : Int) := by rw [IntKind.wrap_i64]; omega
  by_cases h16 : j - k ≤ 16
  · have h16I : (j : Int) - (k : Int) ≤ 16 := by omega
    replace h16 := Lib.hid h16
    go_wp2_with fail
    show Q .ret _ _
    exact hQ.out _ _ _ _ rfl rfl rfl (by
        obtain ⟨b, hb1, hb2, hb3⟩ := hB.out
        refine ⟨by rw [hS.out]; rfl, .inl ⟨j, ?_, rfl, by simp⟩⟩
        rw [hS.out, tokT, hb1]
        simp only [hb2, hb3, hr.out, Bool.false_eq_true, if_false, if_true]
        rw [if_pos h16.out])
  · have h16I : ¬ (j : Int) - (k : Int) ≤ 16 := by omega
    replace h16 := Lib.hid h16
    go_wp2_with fail
    show Q .ret _ _
    exact hQ.out _ _ _ _ rfl rfl rfl (by
        obtain ⟨b, hb1, hb2, hb3⟩ := hB.out
        refine ⟨by rw [hS.out]; rfl, .inr ⟨?_, ?_, by simp⟩⟩
        · rw [hS.out, tokT, hb1]
          simp only [hb2, hb3, hr.out, Bool.false_eq_true, if_false, if_true]
          rw [if_neg h16.out]
        · rw [hS.out, badT, hb1]
          simp only [hb2, hb3, hr.out, Bool.false_eq_true, if_false, if_true]
          rfl)

set_option maxRecDepth 100000 in
set_option maxHeartbeats 4000000 in
theorem scan_number (s : ByteArray) (k0 k n : Nat) (w : World) (hmax : s.size ≤ 1099511627776) (Q : Exit → Act → World → Prop)
    (hQ : ∀ (t : Array Value) (v4 v5 v6 : Value), t[4]? = some v4 → t[5]? = some v5 → t[6]? = some v6 → ScanR s k0 v4 v5 v6 → Q .ret ⟨t, []⟩ w)
    (hk : k ≤ s.size) (hS : skipT false (sl s) k0 = k) (hB : ∃ b, (sl s)[k]? = some b ∧ digB b = true)
    (c2 c3 c5 c6 c8 c9 c10 c11 c12 c13 c14 c15 c16 c17 c18 c19 c20 c21 c22 c23 c24 c25 c26 c27 c28 c29 c30 c31 c32 c33 c34 c35 c36 c37 c38 c39 c40 c41 c42 c43 c44 c45 c46 c47 c48 c49 c50 c51 c52 c53 c54 c55 c56 c57 c58 c59 c60 c61 c62 c63 c64 c65 c66 c67 c68 c69 c70 c71 c72 c73 c74 c75 c76 c77 c78 c79 c80 c81 c82 c83 c84 c85 c86 c87 c88 c89 c90 c91 c92 c93 c94 c95 c96 c97 c98 c99 c100 c101 c102 c103 c104 c105 c106 c107 c108 c109 c110 c111 c112 c113 c114 c115 c116 c117 c118 c119 c120 c121 c122 c123 c124 c125 c126 c127 c128 c129 c130 c131 c132 c133 c134 c135 c136 c137 c138 c139 c140 c141 c142 c143 c144 c145 c146 c147 c148 c149 c150 c151 c152 c153 c154 c155 c156 c157 c158 c159 c160 c161 c162 c163 c164 c165 c166 c167 c168 c169 c170 c171 c172 c173 c174 c175 c176 c177 c178 c179 c180 c181 c182 c183 c184 : Value) :
    (scanL 2).wp Tryz.prog (jumpsE (fun l' a' w' => ∃ m, m < n ∧ ScanJ s k0 w m l' a' w') Q) ⟨#[.string s, .int .i64 (k : Int), c2, c3, .int .i64 (k : Int), c5, c6, .int .i64 0, c8, c9, c10, c11, c12, c13, c14, c15, c16, c17, c18, c19, c20, c21, c22, c23, c24, c25, c26, c27, c28, c29, c30, c31, c32, c33, c34, c35, c36, c37, c38, c39, c40, c41, c42, c43, c44, c45, c46, c47, c48, c49, c50, c51, c52, c53, c54, c55, c56, c57, c58, c59, c60, c61, c62, c63, c64, c65, c66, c67, c68, c69, c70, c71, c72, c73, c74, c75, c76, c77, c78, c79, c80, c81, c82, c83, c84, c85, c86, c87, c88, c89, c90, c91, c92, c93, c94, c95, c96, c97, c98, c99, c100, c101, c102, c103, c104, c105, c106, c107, c108, c109, c110, c111, c112, c113, c114, c115, c116, c117, c118, c119, c120, c121, c122, c123, c124, c125, c126, c127, c128, c129, c130, c131, c132, c133, c134, c135, c136, c137, c138, c139, c140, c141, c142, c143, c144, c145, c146, c147, c148, c149, c150, c151, c152, c153, c154, c155, c156, c157, c158, c159, c160, c161, c162, c163, c164, c165, c166, c167, c168, c169, c170, c171, c172, c173, c174, c175, c176, c177, c178, c179, c180, c181, c182, c183, c184], []⟩ w := by
  unfold scanL
  conv => arg 2; whnf
  replace hQ := Lib.hid hQ
  obtain ⟨b0, hb, hD0⟩ := hB
  replace hb := Lib.hid hb
  replace hD0 := Lib.hid hD0
  replace hS := Lib.hid hS
  go_upto_block 6 with fail
  go_cut [1] from 82 to 93 (fun s1 wx => ∃ j : Nat, s1 = .int .i64 (j : Int) ∧ w = wx ∧ k ≤ j ∧ j ≤ s.size ∧ Hid (runT digB (sl s) (k) = j))
  case first =>
    go_wp2_with fail
    go_loopg [1] (s.size - (k)) (fun g s1 wr => ∃ j : Nat, s1 = .int .i64 (j : Int) ∧ w = wr ∧ s.size - j ≤ g ∧ k ≤ j ∧ j ≤ s.size ∧ runT digB (sl s) j = runT digB (sl s) (k))
    case atStart => exact ⟨k, by simp, rfl, Nat.le_refl _, Nat.le_refl _, by omega, rfl⟩
    case round =>
      obtain ⟨j, rfl, rfl, hg, hkj, hj, hsj⟩ := hrel
      replace hsj := Lib.hid hsj
      by_cases hlo_c : j < s.size
      case neg =>
        obtain rfl : j = s.size := by omega
        have hloI : ¬ ((s.size : Nat) : Int) < (s.size : Int) := by omega
        have he := Lib.hid (runT_end (p := digB) (sl_none (s := s)))
        go_wp2_with fail
        go_meet
        case rel => exact ⟨s.size, rfl, rfl, hkj, hj, Lib.hid (by rw [← hsj.out, he.out])⟩
      case pos =>
        have hloI : (j : Int) < (s.size : Int) := by omega
        have hw1 : Hid (IntKind.i64.wrap ((j : Int) + 1) = (j : Int) + 1) := Lib.hid (by rw [IntKind.wrap_i64]; omega)
        obtain ⟨c, hc_c⟩ : ∃ c, c = (s[j]'hlo_c).toNat := ⟨_, rfl⟩
        have hc9_c : c < 256 := by rw [hc_c]; exact (s[j]'hlo_c).toNat_lt
        have hcx_c : (((s[j]'hlo_c).toNat : Nat) : Int) = (c : Int) := by rw [hc_c]
        have hb_c : Hid ((sl s)[j]? = some c) := Lib.hid (by rw [sl_get s (j) hlo_c, hc_c])
        replace hc_c := Lib.hid hc_c
        by_cases hD : digB c = true
        case pos =>
          have cD_c : Hid (∀ W, Calls Tryz.prog 38 #[.int .u8 (c : Int)] W (fun e w' => e = .returned (.bool true) ∧ w' = W)) := Lib.hid (fun W => by rw [← hD]; exact digit_any c W)
          replace hD := Lib.hid hD
          go_wp2_with fail
          refine (cD_c.out _).mono ?_
          rintro en w1 ⟨rfl, hw⟩
          obtain rfl := hw.symm
          clear hw
          have hst := Lib.hid (runT_step (p := digB) hb_c.out hD.out)
          have hw1 := hw1.out
          go_wp2_with fail
          go_roundg (s.size - (j + 1))
          case measure => omega
          case rel => exact ⟨j + 1, by simp, rfl, Nat.le_refl _, by omega, by omega, by rw [← hst.out, hsj.out]⟩
        case neg =>
          replace hD : digB c = false := by simpa using hD
          have cD_c : Hid (∀ W, Calls Tryz.prog 38 #[.int .u8 (c : Int)] W (fun e w' => e = .returned (.bool false) ∧ w' = W)) := Lib.hid (fun W => by rw [← hD]; exact digit_any c W)
          replace hD := Lib.hid hD
          go_wp2_with fail
          refine (cD_c.out _).mono ?_
          rintro en w1 ⟨rfl, hw⟩
          obtain rfl := hw.symm
          clear hw
          have hst := Lib.hid (runT_stop (p := digB) hb_c.out hD.out)
          go_wp2_with fail
          go_meet
          case rel => exact ⟨j, rfl, rfl, hkj, hj, Lib.hid (by rw [← hsj.out, hst.out])⟩
  obtain ⟨d, rfl, rfl, hkd, hds, hd⟩ := hcut
  go_upto_region 25 with fail
  go_cut [103] from 94 to 103 (fun s103 wx => ∃ b : Bool, s103 = .bool b ∧ w = wx ∧ Hid (BIff b ((sl s)[d]? = some 46)))
  case first =>
    by_cases hlo_c : d < s.size
    case neg =>
      obtain rfl : d = s.size := by omega
      have hloI : ¬ ((s.size : Nat) : Int) < (s.size : Int) := by omega
      have hF : Hid (BIff false ((sl s)[s.size]? = some 46)) := Lib.hid (by unfold BIff; rw [sl_none]; simp)
      go_wp2_with fail
      go_meet
      case rel => exact ⟨false, rfl, rfl, hF⟩
    case pos =>
      have hloI : (d : Int) < (s.size : Int) := by omega
      obtain ⟨c, hc_c⟩ : ∃ c, c = (s[d]'hlo_c).toNat := ⟨_, rfl⟩
      have hc9_c : c < 256 := by rw [hc_c]; exact (s[d]'hlo_c).toNat_lt
      have hcx_c : (((s[d]'hlo_c).toNat : Nat) : Int) = (c : Int) := by rw [hc_c]
      have hb_c : Hid ((sl s)[d]? = some c) := Lib.hid (by rw [sl_get s (d) hlo_c, hc_c])
      replace hc_c := Lib.hid hc_c
      by_cases h46 : c = 46
      case neg =>
        have hI : ((c : Int) == 46) = false := by rw [beq_eq_false_iff_ne]; omega
        have hF : Hid (BIff false ((sl s)[d]? = some 46)) := Lib.hid (by unfold BIff; rw [hb_c.out]; simp [h46])
        clear h46
        go_wp2_with fail
        go_meet
        case rel => exact ⟨false, rfl, rfl, hF⟩
      case pos =>
        have hI : ((c : Int) == 46) = true := by rw [h46]; rfl
        have hF : Hid (BIff true ((sl s)[d]? = some 46)) := Lib.hid (by unfold BIff; rw [hb_c.out]; simp [h46])
        clear h46
        go_wp2_with fail
        go_meet
        case rel => exact ⟨true, rfl, rfl, hF⟩
  obtain ⟨b, rfl, rfl, hP⟩ := hcut
  go_upto_if 103 with fail
  go_cut [1, 4] from 104 to 130 (fun s1 s4 wx => ∃ m : Nat, s1 = .int .i64 (m : Int) ∧ s4 = .int .i64 (k : Int) ∧ w = wx ∧ m ≤ s.size ∧ Hid (fracT (sl s) d = some m))
  case first =>
    rcases b with _ | _
    case false =>
      have hF : Hid (fracT (sl s) d = some d) := Lib.hid (by rw [fracT, if_neg (fun e => by have := hP.out.2 e; cases this)])
      go_wp2_with fail
      go_meet
      case rel => exact ⟨d, rfl, rfl, rfl, hds, hF⟩
    case true =>
      replace hP : Hid ((sl s)[d]? = some 46) := Lib.hid (hP.out.1 rfl)
      have hlo_c : d < s.size := (byte_at hP.out).1
      have hw1 : IntKind.i64.wrap ((d : Int) + 1) = (d : Int) + 1 := by rw [IntKind.wrap_i64]; omega
      by_cases hlo_e : d + 1 < s.size
      case neg =>
        have hx : d + 1 = s.size := by omega
        have hxI : (((d : Int) + 1) == (s.size : Int)) = true := by rw [beq_iff_eq]; omega
        have hF : Hid (fracT (sl s) d = none) := Lib.hid (by rw [fracT, if_pos hP.out, if_pos (by rw [hx]; exact runT_end sl_none)])
        replace hx := Lib.hid hx
        go_wp2_with fail
        show Q .ret _ _
        exact hQ.out _ _ _ _ rfl rfl rfl (by
            refine ⟨by rw [hS.out]; rfl, .inr ⟨?_, ?_, rfl⟩⟩
            · rw [hS.out, tokT, hb.out]
              simp only [hD0.out, if_true]
              rw [numT, hd.out, hF.out]; rfl
            · rw [hS.out, badT, hb.out]
              simp only [hD0.out, if_true]
              rw [hd.out, hF.out]
              rfl)
      case pos =>
        have hxI : (((d : Int) + 1) == (s.size : Int)) = false := by rw [beq_eq_false_iff_ne]; omega
        have hloJ : (d : Int) + 1 < (s.size : Int) := by omega
        obtain ⟨e, hc_e⟩ : ∃ c, c = (s[d + 1]'hlo_e).toNat := ⟨_, rfl⟩
        have hc9_e : e < 256 := by rw [hc_e]; exact (s[d + 1]'hlo_e).toNat_lt
        have hcx_e : (((s[d + 1]'hlo_e).toNat : Nat) : Int) = (e : Int) := by rw [hc_e]
        have hb_e : Hid ((sl s)[d + 1]? = some e) := Lib.hid (by rw [sl_get s (d + 1) hlo_e, hc_e])
        replace hc_e := Lib.hid hc_e
        by_cases hE : digB e = true
        case neg =>
          replace hE : digB e = false := by simpa using hE
          have cD_e : Hid (∀ W, Calls Tryz.prog 38 #[.int .u8 (e : Int)] W (fun e w' => e = .returned (.bool false) ∧ w' = W)) := Lib.hid (fun W => by rw [← hE]; exact digit_any e W)
          have hF : Hid (fracT (sl s) d = none) := Lib.hid (by rw [fracT, if_pos hP.out, if_pos (runT_stop hb_e.out hE)])
          replace hE := Lib.hid hE
          go_wp2_with fail
          refine (cD_e.out _).mono ?_
          rintro en w1 ⟨rfl, hw⟩
          obtain rfl := hw.symm
          clear hw
          go_wp2_with fail
          show Q .ret _ _
          exact hQ.out _ _ _ _ rfl rfl rfl (by
              refine ⟨by rw [hS.out]; rfl, .inr ⟨?_, ?_, rfl⟩⟩
              · rw [hS.out, tokT, hb.out]
                simp only [hD0.out, if_true]
                rw [numT, hd.out, hF.out]; rfl
              · rw [hS.out, badT, hb.out]
                simp only [hD0.out, if_true]
                rw [hd.out, hF.out]
                rfl)
        case pos =>
          have cD_e : Hid (∀ W, Calls Tryz.prog 38 #[.int .u8 (e : Int)] W (fun e w' => e = .returned (.bool true) ∧ w' = W)) := Lib.hid (fun W => by rw [← hE]; exact digit_any e W)
          have hE1 := Lib.hid (runT_step (p := digB) hb_e.out hE)
          replace hE := Lib.hid hE
          go_wp2_with fail
          refine (cD_e.out _).mono ?_
          rintro en w1 ⟨rfl, hw⟩
          obtain rfl := hw.symm
          clear hw
          go_upto_block 8 with fail
          obtain ⟨d1, hd1⟩ : ∃ d1, d1 = d + 1 := ⟨_, rfl⟩
          have hd1I : (d : Int) + 1 = (d1 : Int) := by omega
          rw [hd1I]
          rw [← hd1] at hE1 hlo_e
          have hP2 : Hid (runT digB (sl s) d1 ≠ d1) := Lib.hid (by
            rw [hE1.out]
            have := runT_ge (p := digB) (s := sl s) (i := d1 + 1)
            omega)
          replace hd1 := Lib.hid hd1
          clear hd1I hxI hloJ hcx_e hb_e hc_e hc9_e cD_e hE hE1 hw1
          go_upto_block 8 with fail
          go_cut [1] from 119 to 130 (fun s1 wx => ∃ j : Nat, s1 = .int .i64 (j : Int) ∧ w = wx ∧ d1 ≤ j ∧ j ≤ s.size ∧ Hid (runT digB (sl s) (d1) = j))
          case first =>
            go_wp2_with fail
            go_loopg [1] (s.size - (d1)) (fun g s1 wr => ∃ j : Nat, s1 = .int .i64 (j : Int) ∧ w = wr ∧ s.size - j ≤ g ∧ d1 ≤ j ∧ j ≤ s.size ∧ runT digB (sl s) j = runT digB (sl s) (d1))
            case atStart => exact ⟨d1, by simp, rfl, Nat.le_refl _, Nat.le_refl _, by omega, rfl⟩
            case round =>
              obtain ⟨j, rfl, rfl, hg, hkj, hj, hsj⟩ := hrel
              replace hsj := Lib.hid hsj
              by_cases hlo_c : j < s.size
              case neg =>
                obtain rfl : j = s.size := by omega
                have hloI : ¬ ((s.size : Nat) : Int) < (s.size : Int) := by omega
                have he := Lib.hid (runT_end (p := digB) (sl_none (s := s)))
                go_wp2_with fail
                go_meet
                case rel => exact ⟨s.size, rfl, rfl, hkj, hj, Lib.hid (by rw [← hsj.out, he.out])⟩
              case pos =>
                have hloI : (j : Int) < (s.size : Int) := by omega
                have hw1 : Hid (IntKind.i64.wrap ((j : Int) + 1) = (j : Int) + 1) := Lib.hid (by rw [IntKind.wrap_i64]; omega)
                obtain ⟨c, hc_c⟩ : ∃ c, c = (s[j]'hlo_c).toNat := ⟨_, rfl⟩
                have hc9_c : c < 256 := by rw [hc_c]; exact (s[j]'hlo_c).toNat_lt
                have hcx_c : (((s[j]'hlo_c).toNat : Nat) : Int) = (c : Int) := by rw [hc_c]
                have hb_c : Hid ((sl s)[j]? = some c) := Lib.hid (by rw [sl_get s (j) hlo_c, hc_c])
                replace hc_c := Lib.hid hc_c
                by_cases hD : digB c = true
                case pos =>
                  have cD_c : Hid (∀ W, Calls Tryz.prog 38 #[.int .u8 (c : Int)] W (fun e w' => e = .returned (.bool true) ∧ w' = W)) := Lib.hid (fun W => by rw [← hD]; exact digit_any c W)
                  replace hD := Lib.hid hD
                  go_wp2_with fail
                  refine (cD_c.out _).mono ?_
                  rintro en w1 ⟨rfl, hw⟩
                  obtain rfl := hw.symm
                  clear hw
                  have hst := Lib.hid (runT_step (p := digB) hb_c.out hD.out)
                  have hw1 := hw1.out
                  go_wp2_with fail
                  go_roundg (s.size - (j + 1))
                  case measure => omega
                  case rel => exact ⟨j + 1, by simp, rfl, Nat.le_refl _, by omega, by omega, by rw [← hst.out, hsj.out]⟩
                case neg =>
                  replace hD : digB c = false := by simpa using hD
                  have cD_c : Hid (∀ W, Calls Tryz.prog 38 #[.int .u8 (c : Int)] W (fun e w' => e = .returned (.bool false) ∧ w' = W)) := Lib.hid (fun W => by rw [← hD]; exact digit_any c W)
                  replace hD := Lib.hid hD
                  go_wp2_with fail
                  refine (cD_c.out _).mono ?_
                  rintro en w1 ⟨rfl, hw⟩
                  obtain rfl := hw.symm
                  clear hw
                  have hst := Lib.hid (runT_stop (p := digB) hb_c.out hD.out)
                  go_wp2_with fail
                  go_meet
                  case rel => exact ⟨j, rfl, rfl, hkj, hj, Lib.hid (by rw [← hsj.out, hst.out])⟩
          obtain ⟨m, rfl, rfl, hdm, hms, hm⟩ := hcut
          have hF : Hid (fracT (sl s) d = some m) := Lib.hid (by
            rw [fracT, if_pos hP.out, ← hd1.out, if_neg hP2.out, hm.out])
          go_wp2_with fail
          go_meet
          case rel => exact ⟨m, rfl, rfl, rfl, hms, hF⟩
  obtain ⟨m, rfl, rfl, rfl, hms, hF⟩ := hcut
  go_upto_region 31 with fail
  by_cases hlo_c : m < s.size
  case neg =>
    obtain rfl : m = s.size := by omega
    have hE : ((((s.size : Nat) : Int)) == (s.size : Int)) = true := by simp
    have hX : Hid (expT (sl s) s.size = some s.size) := Lib.hid (by rw [expT, sl_none]; rfl)
    go_wp2_with fail
    show Q .ret _ _
    exact hQ.out _ _ _ _ rfl rfl rfl (by
        refine ⟨by rw [hS.out]; rfl, .inl ⟨s.size, ?_, rfl, rfl⟩⟩
        rw [hS.out, tokT, hb.out]
        simp only [hD0.out, if_true]
        rw [numT, hd.out, hF.out]
        exact hX.out)
  case pos =>
    have hE : ((m : Int) == (s.size : Int)) = false := by rw [beq_eq_false_iff_ne]; omega
    have hloI : (m : Int) < (s.size : Int) := by omega
    obtain ⟨c, hc_c⟩ : ∃ c, c = (s[m]'hlo_c).toNat := ⟨_, rfl⟩
    have hc9_c : c < 256 := by rw [hc_c]; exact (s[m]'hlo_c).toNat_lt
    have hcx_c : (((s[m]'hlo_c).toNat : Nat) : Int) = (c : Int) := by rw [hc_c]
    have hb_c : Hid ((sl s)[m]? = some c) := Lib.hid (by rw [sl_get s (m) hlo_c, hc_c])
    replace hc_c := Lib.hid hc_c
    by_cases h101 : c = 101
    case neg =>
      have hI : ((c : Int) != 101) = true := by rw [bne_iff_ne]; omega
      have hX : Hid (expT (sl s) m = some m) := Lib.hid (by rw [expT, hb_c.out, if_neg (fun e => h101 (Option.some.inj e))])
      clear h101
      go_wp2_with fail
      show Q .ret _ _
      exact hQ.out _ _ _ _ rfl rfl rfl (by
          refine ⟨by rw [hS.out]; rfl, .inl ⟨m, ?_, rfl, rfl⟩⟩
          rw [hS.out, tokT, hb.out]
          simp only [hD0.out, if_true]
          rw [numT, hd.out, hF.out]
          exact hX.out)
    case pos =>
      have hI : ((c : Int) != 101) = false := by rw [h101]; rfl
      have hP : Hid ((sl s)[m]? = some 101) := Lib.hid (by rw [hb_c.out, h101])
      have hw1 : IntKind.i64.wrap ((m : Int) + 1) = (m : Int) + 1 := by rw [IntKind.wrap_i64]; omega
      clear h101
      go_upto_region 34 with fail
      obtain ⟨q, hq⟩ : ∃ q, q = m + 1 := ⟨_, rfl⟩
      have hqI : (m : Int) + 1 = (q : Int) := by omega
      rw [hqI]
      have hqs : q ≤ s.size := by omega
      replace hq := Lib.hid hq
      clear hqI hw1 hcx_c hb_c hc_c hc9_c hI hloI hlo_c hE
      go_cut [160] from 145 to 160 (fun s160 wx => ∃ b : Bool, s160 = .bool b ∧ w = wx ∧ Hid (BIff b ((sl s)[q]? = some 43 ∨ (sl s)[q]? = some 45)))
      case first =>
        by_cases hlo_c : q < s.size
        case neg =>
          obtain rfl : q = s.size := by omega
          have hloI : ¬ ((s.size : Nat) : Int) < (s.size : Int) := by omega
          have hG : Hid (BIff false ((sl s)[s.size]? = some 43 ∨ (sl s)[s.size]? = some 45)) := Lib.hid (by unfold BIff; rw [sl_none]; simp)
          go_wp2_with fail
          go_meet
          case rel => exact ⟨false, rfl, rfl, hG⟩
        case pos =>
          have hloI : (q : Int) < (s.size : Int) := by omega
          obtain ⟨c, hc_c⟩ : ∃ c, c = (s[q]'hlo_c).toNat := ⟨_, rfl⟩
          have hc9_c : c < 256 := by rw [hc_c]; exact (s[q]'hlo_c).toNat_lt
          have hcx_c : (((s[q]'hlo_c).toNat : Nat) : Int) = (c : Int) := by rw [hc_c]
          have hb_c : Hid ((sl s)[q]? = some c) := Lib.hid (by rw [sl_get s (q) hlo_c, hc_c])
          replace hc_c := Lib.hid hc_c
          by_cases h43 : c = 43
          case pos =>
            have hI : ((c : Int) == 43) = true := by rw [h43]; rfl
            have hG : Hid (BIff true ((sl s)[q]? = some 43 ∨ (sl s)[q]? = some 45)) := Lib.hid (by unfold BIff; rw [hb_c.out, h43]; simp)
            clear h43 
            go_wp2_with fail
            go_meet
            case rel => exact ⟨true, rfl, rfl, hG⟩
          case neg =>
            have hI43 : ((c : Int) == 43) = false := by rw [beq_eq_false_iff_ne]; omega
            by_cases h45 : c = 45
            case pos =>
              have hI : ((c : Int) == 45) = true := by rw [h45]; rfl
              have hG : Hid (BIff true ((sl s)[q]? = some 43 ∨ (sl s)[q]? = some 45)) := Lib.hid (by unfold BIff; rw [hb_c.out, h45]; simp)
              clear h45 h43
              go_wp2_with fail
              go_meet
              case rel => exact ⟨true, rfl, rfl, hG⟩
            case neg =>
              have hI45 : ((c : Int) == 45) = false := by rw [beq_eq_false_iff_ne]; omega
              have hG : Hid (BIff false ((sl s)[q]? = some 43 ∨ (sl s)[q]? = some 45)) := Lib.hid (by unfold BIff; rw [hb_c.out]; simp [h43, h45])
              clear h43 h45
              go_wp2_with fail
              go_meet
              case rel => exact ⟨false, rfl, rfl, hG⟩
      obtain ⟨b, rfl, rfl, hSg⟩ := hcut
      go_upto_if 160 with fail
      go_cut [1] from 161 to 162 (fun s1 wx => ∃ r : Nat, s1 = .int .i64 (r : Int) ∧ w = wx ∧ r ≤ s.size ∧ Hid (sigT (sl s) q = r))
      case first =>
        rcases b with _ | _
        case false =>
          have hG : Hid (sigT (sl s) q = q) := Lib.hid (by rw [sigT, if_neg (fun e => by have := hSg.out.2 e; cases this)])
          go_wp2_with fail
          go_meet
          case rel => exact ⟨q, rfl, rfl, hqs, hG⟩
        case true =>
          have hG : Hid (sigT (sl s) q = q + 1) := Lib.hid (by rw [sigT, if_pos (hSg.out.1 rfl)])
          have hlo : q < s.size := by
            rcases hSg.out.1 rfl with h | h <;> exact (byte_at h).1
          have hw1 : IntKind.i64.wrap ((q : Int) + 1) = (q : Int) + 1 := by rw [IntKind.wrap_i64]; omega
          go_wp2_with fail
          go_meet
          case rel => exact ⟨q + 1, by simp, rfl, by omega, hG⟩
      obtain ⟨r, rfl, rfl, hrs, hG⟩ := hcut
      go_upto_block 10 with fail
      have hcnt : (Value.int .i64 0) = .int .i64 (((r - r : Nat) : Nat) : Int) := by simp
      go_upto_block 10 with fail
      go_cut [1, 7] from 163 to 176 (fun s1 s7 wx => ∃ j : Nat, s1 = .int .i64 (j : Int) ∧ s7 = .int .i64 (((j) - r : Nat) : Int) ∧ w = wx ∧ r ≤ j ∧ j ≤ s.size ∧ Hid (runT digB (sl s) (r) = j))
      case first =>
        go_wp2_with fail
        go_loopg [1, 7] (s.size - (r)) (fun g s1 s7 wr => ∃ j : Nat, s1 = .int .i64 (j : Int) ∧ s7 = .int .i64 (((j) - r : Nat) : Int) ∧ w = wr ∧ s.size - j ≤ g ∧ r ≤ j ∧ j ≤ s.size ∧ runT digB (sl s) j = runT digB (sl s) (r))
        case atStart => exact ⟨r, by simp, by simp, rfl, Nat.le_refl _, Nat.le_refl _, by omega, rfl⟩
        case round =>
          obtain ⟨j, rfl, rfl, rfl, hg, hkj, hj, hsj⟩ := hrel
          replace hsj := Lib.hid hsj
          by_cases hlo_c : j < s.size
          case neg =>
            obtain rfl : j = s.size := by omega
            have hloI : ¬ ((s.size : Nat) : Int) < (s.size : Int) := by omega
            have he := Lib.hid (runT_end (p := digB) (sl_none (s := s)))
            go_wp2_with fail
            go_meet
            case rel => exact ⟨s.size, rfl, rfl, rfl, hkj, hj, Lib.hid (by rw [← hsj.out, he.out])⟩
          case pos =>
            have hloI : (j : Int) < (s.size : Int) := by omega
            have hw1 : Hid (IntKind.i64.wrap ((j : Int) + 1) = (j : Int) + 1) := Lib.hid (by rw [IntKind.wrap_i64]; omega)
            have hw7 : Hid (IntKind.i64.wrap (((j - (r) : Nat) : Int) + 1) = ((j + 1 - (r) : Nat) : Int)) := Lib.hid (by rw [IntKind.wrap_i64]; omega)
            obtain ⟨c, hc_c⟩ : ∃ c, c = (s[j]'hlo_c).toNat := ⟨_, rfl⟩
            have hc9_c : c < 256 := by rw [hc_c]; exact (s[j]'hlo_c).toNat_lt
            have hcx_c : (((s[j]'hlo_c).toNat : Nat) : Int) = (c : Int) := by rw [hc_c]
            have hb_c : Hid ((sl s)[j]? = some c) := Lib.hid (by rw [sl_get s (j) hlo_c, hc_c])
            replace hc_c := Lib.hid hc_c
            by_cases hD : digB c = true
            case pos =>
              have cD_c : Hid (∀ W, Calls Tryz.prog 38 #[.int .u8 (c : Int)] W (fun e w' => e = .returned (.bool true) ∧ w' = W)) := Lib.hid (fun W => by rw [← hD]; exact digit_any c W)
              replace hD := Lib.hid hD
              go_wp2_with fail
              refine (cD_c.out _).mono ?_
              rintro en w1 ⟨rfl, hw⟩
              obtain rfl := hw.symm
              clear hw
              have hst := Lib.hid (runT_step (p := digB) hb_c.out hD.out)
              have hw1 := hw1.out
              have hw7 := hw7.out
              go_wp2_with fail
              go_roundg (s.size - (j + 1))
              case measure => omega
              case rel => exact ⟨j + 1, by simp, by simp, rfl, Nat.le_refl _, by omega, by omega, by rw [← hst.out, hsj.out]⟩
            case neg =>
              replace hD : digB c = false := by simpa using hD
              have cD_c : Hid (∀ W, Calls Tryz.prog 38 #[.int .u8 (c : Int)] W (fun e w' => e = .returned (.bool false) ∧ w' = W)) := Lib.hid (fun W => by rw [← hD]; exact digit_any c W)
              replace hD := Lib.hid hD
              go_wp2_with fail
              refine (cD_c.out _).mono ?_
              rintro en w1 ⟨rfl, hw⟩
              obtain rfl := hw.symm
              clear hw
              have hst := Lib.hid (runT_stop (p := digB) hb_c.out hD.out)
              go_wp2_with fail
              go_meet
              case rel => exact ⟨j, rfl, rfl, rfl, hkj, hj, Lib.hid (by rw [← hsj.out, hst.out])⟩
      obtain ⟨z, rfl, rfl, rfl, hrz, hzs, hz⟩ := hcut
      have hX : Hid (expT (sl s) m = if 1 ≤ z - r ∧ z - r ≤ 4 then some z else none) := Lib.hid (by
        rw [expT, if_pos hP.out, ← hq.out, hG.out, hz.out])
      obtain ⟨y, hy⟩ : ∃ y, y = z - r := ⟨_, rfl⟩
      rw [← hy] at hX ⊢
      by_cases h1 : 1 ≤ y
      case neg =>
        have h1I : ¬ (1 : Int) ≤ (y : Int) := by omega
        rw [if_neg (fun h => h1 h.1)] at hX
        clear hy h1
        go_wp2_with fail
        show Q .ret _ _
        exact hQ.out _ _ _ _ rfl rfl rfl (by
            refine ⟨by rw [hS.out]; rfl, .inr ⟨?_, ?_, by simp⟩⟩
            · rw [hS.out, tokT, hb.out]
              simp only [hD0.out, if_true]
              rw [numT, hd.out, hF.out]
              exact hX.out
            · rw [hS.out, badT, hb.out]
              simp only [hD0.out, if_true]
              rw [hd.out, hF.out]
              simp only
              rw [← hq.out, hG.out, hz.out]
              rfl)
      case pos =>
        have h1I : (1 : Int) ≤ (y : Int) := by omega
        by_cases h4 : y ≤ 4
        case neg =>
          have h4I : ¬ (y : Int) ≤ 4 := by omega
          rw [if_neg (fun h => h4 h.2)] at hX
          clear hy h1 h4
          go_wp2_with fail
          show Q .ret _ _
          exact hQ.out _ _ _ _ rfl rfl rfl (by
              refine ⟨by rw [hS.out]; rfl, .inr ⟨?_, ?_, by simp⟩⟩
              · rw [hS.out, tokT, hb.out]
                simp only [hD0.out, if_true]
                rw [numT, hd.out, hF.out]
                exact hX.out
              · rw [hS.out, badT, hb.out]
                simp only [hD0.out, if_true]
                rw [hd.out, hF.out]
                simp only
                rw [← hq.out, hG.out, hz.out]
                rfl)
        case pos =>
          have h4I : (y : Int) ≤ 4 := by omega
          rw [if_pos ⟨h1, h4⟩] at hX
          clear hy h1 h4
          go_wp2_with fail
          show Q .ret _ _
          exact hQ.out _ _ _ _ rfl rfl rfl (by
              refine ⟨by rw [hS.out]; rfl, .inl ⟨z, ?_, rfl, by simp⟩⟩
              rw [hS.out, tokT, hb.out]
              simp only [hD0.out, if_true]
              rw [numT, hd.out, hF.out]
              exact hX.out)

theorem scanJ_pass (s : ByteArray) (k0 : Nat) (w : World) (hmax : s.size ≤ 1099511627776) (Q : Exit → Act → World → Prop)
    (hQ : ∀ (t : Array Value) (v4 v5 v6 : Value), t[4]? = some v4 → t[5]? = some v5 → t[6]? = some v6 → ScanR s k0 v4 v5 v6 → Q .ret ⟨t, []⟩ w)
    (n l : Nat) (a : Act) (w' : World) (hJ : ScanJ s k0 w n l a w') : ∃ rest, findLabel scanC l = some rest ∧ rest.wp Tryz.prog (jumpsE (fun l' a' w' => ∃ m, m < n ∧ ScanJ s k0 w m l' a' w') Q) a w' := by
  obtain ⟨k, rfl, hdf, hsz, e0, e1, e7, hk, hcase⟩ := hJ
  obtain ⟨tm, df⟩ := a
  simp only at hdf hsz e0 e1 e7 hcase
  subst hdf
  have g0 := bang_of e0
  have g1 := bang_of e1
  have g7 := bang_of e7
  have hl := scan_letters tm hsz
  rw [g0, g1, g7] at hl
  rcases hcase with ⟨rfl, hn, h⟩ | ⟨rfl, hn, h, h2⟩ | ⟨rfl, hn, h4, h, h2⟩ | ⟨rfl, hn, h4, h, h2⟩
  · refine ⟨_, scanL0, ?_⟩
    rw [hl]
    refine wp_seq (wp_skip ?_)
    exact scan_blanks s k0 k n w' hmax Q hQ hk hn h _ _ _ _ _ _ _ _ _ _ _ _ _ _ _ _ _ _ _ _ _ _ _ _ _ _ _ _ _ _ _ _ _ _ _ _ _ _ _ _ _ _ _ _ _ _ _ _ _ _ _ _ _ _ _ _ _ _ _ _ _ _ _ _ _ _ _ _ _ _ _ _ _ _ _ _ _ _ _ _ _ _ _ _ _ _ _ _ _ _ _ _ _ _ _ _ _ _ _ _ _ _ _ _ _ _ _ _ _ _ _ _ _ _ _ _ _ _ _ _ _ _ _ _ _ _ _ _ _ _ _ _ _ _ _ _ _ _ _ _ _ _ _ _ _ _ _ _ _ _ _ _ _ _ _ _ _ _ _ _ _ _ _ _ _ _ _ _ _ _ _ _ _ _ _ _ _ _ _ _ _ _
  · refine ⟨_, scanL1, ?_⟩
    rw [hl]
    exact scan_note s k0 k n w' hmax Q hQ hk hn h h2 _ _ _ _ _ _ _ _ _ _ _ _ _ _ _ _ _ _ _ _ _ _ _ _ _ _ _ _ _ _ _ _ _ _ _ _ _ _ _ _ _ _ _ _ _ _ _ _ _ _ _ _ _ _ _ _ _ _ _ _ _ _ _ _ _ _ _ _ _ _ _ _ _ _ _ _ _ _ _ _ _ _ _ _ _ _ _ _ _ _ _ _ _ _ _ _ _ _ _ _ _ _ _ _ _ _ _ _ _ _ _ _ _ _ _ _ _ _ _ _ _ _ _ _ _ _ _ _ _ _ _ _ _ _ _ _ _ _ _ _ _ _ _ _ _ _ _ _ _ _ _ _ _ _ _ _ _ _ _ _ _ _ _ _ _ _ _ _ _ _ _ _ _ _ _ _ _ _ _ _ _ _
  · refine ⟨_, scanL2, ?_⟩
    have g4 := bang_of h4
    rw [g4] at hl
    rw [hl]
    exact scan_number s k0 k n w' hmax Q hQ hk h h2 _ _ _ _ _ _ _ _ _ _ _ _ _ _ _ _ _ _ _ _ _ _ _ _ _ _ _ _ _ _ _ _ _ _ _ _ _ _ _ _ _ _ _ _ _ _ _ _ _ _ _ _ _ _ _ _ _ _ _ _ _ _ _ _ _ _ _ _ _ _ _ _ _ _ _ _ _ _ _ _ _ _ _ _ _ _ _ _ _ _ _ _ _ _ _ _ _ _ _ _ _ _ _ _ _ _ _ _ _ _ _ _ _ _ _ _ _ _ _ _ _ _ _ _ _ _ _ _ _ _ _ _ _ _ _ _ _ _ _ _ _ _ _ _ _ _ _ _ _ _ _ _ _ _ _ _ _ _ _ _ _ _ _ _ _ _ _ _ _ _ _ _ _ _ _ _ _ _ _ _ _
  · refine ⟨_, scanL3, ?_⟩
    have g4 := bang_of h4
    rw [g4] at hl
    rw [hl]
    exact scan_word s k0 k n w' hmax Q hQ hk h h2 _ _ _ _ _ _ _ _ _ _ _ _ _ _ _ _ _ _ _ _ _ _ _ _ _ _ _ _ _ _ _ _ _ _ _ _ _ _ _ _ _ _ _ _ _ _ _ _ _ _ _ _ _ _ _ _ _ _ _ _ _ _ _ _ _ _ _ _ _ _ _ _ _ _ _ _ _ _ _ _ _ _ _ _ _ _ _ _ _ _ _ _ _ _ _ _ _ _ _ _ _ _ _ _ _ _ _ _ _ _ _ _ _ _ _ _ _ _ _ _ _ _ _ _ _ _ _ _ _ _ _ _ _ _ _ _ _ _ _ _ _ _ _ _ _ _ _ _ _ _ _ _ _ _ _ _ _ _ _ _ _ _ _ _ _ _ _ _ _ _ _ _ _ _ _ _ _ _ _ _ _

set_option maxRecDepth 100000 in
/-- lang.scan -/
theorem scan_any (s : ByteArray) (k : Nat) (w : World) (hk : k ≤ s.size) (hmax : s.size ≤ 1099511627776) :
    Calls Tryz.prog 20 #[.string s, .int .i64 (k : Int)] w (fun e w' => w' = w ∧ ∃ v4 v5 v6, e = .returned (.tuple #[v4, v5, v6]) ∧ ScanR s k v4 v5 v6) := by
  go_enter Tryz.func20, Tryz.ntmps20
  go_wp2_with fail
  refine wp_scope_many (ScanJ s k w) (fun n l a w' hJ => ?pass) ?first
  case pass =>
    refine scanJ_pass s k w hmax _ ?_ n l a w' hJ
    intro t v4 v5 v6 e4 e5 e6 hR
    refine bodyPost_ret (v := .tuple #[v4, v5, v6]) (by simp [results, Tryz.results20, go_sem, e4, e5, e6]) rfl ?_
    exact ⟨rfl, v4, v5, v6, rfl, hR⟩
  case first =>
    go_upto_region 2 with fail
    refine wp_label ?_
    apply_assumption
    show Code.wp _ scanX _ _ _
    refine jumps_weak (scan_blanks s k k (2 * (s.size - k) + 1) w hmax _ ?_ hk rfl rfl _ _ _ _ _ _ _ _ _ _ _ _ _ _ _ _ _ _ _ _ _ _ _ _ _ _ _ _ _ _ _ _ _ _ _ _ _ _ _ _ _ _ _ _ _ _ _ _ _ _ _ _ _ _ _ _ _ _ _ _ _ _ _ _ _ _ _ _ _ _ _ _ _ _ _ _ _ _ _ _ _ _ _ _ _ _ _ _ _ _ _ _ _ _ _ _ _ _ _ _ _ _ _ _ _ _ _ _ _ _ _ _ _ _ _ _ _ _ _ _ _ _ _ _ _ _ _ _ _ _ _ _ _ _ _ _ _ _ _ _ _ _ _ _ _ _ _ _ _ _ _ _ _ _ _ _ _ _ _ _ _ _ _ _ _ _ _ _ _ _ _ _ _ _ _ _ _ _ _ _ _ _) ?_
    case refine_1 =>
      intro t v4 v5 v6 e4 e5 e6 hR
      refine bodyPost_ret (v := .tuple #[v4, v5, v6]) (by simp [results, Tryz.results20, go_sem, e4, e5, e6]) rfl ?_
      exact ⟨rfl, v4, v5, v6, rfl, hR⟩
    case refine_2 =>
      intro l a' w' h
      obtain ⟨m, -, hm⟩ := h
      exact ⟨m, hm⟩
end Go.Proofs.YtnaadajcehfmiaaGreatDoor
