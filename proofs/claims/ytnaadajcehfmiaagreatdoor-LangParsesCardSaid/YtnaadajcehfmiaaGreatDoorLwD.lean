/- lang's writer: part. -/
import Derived.Test.YtnaadajcehfmiaaGreatDoorLwC
namespace Go.Proofs.YtnaadajcehfmiaaGreatDoor
open Go.RowKit Go.Sort Go.Maps

/-- The writer's functions by kind. -/
def fidK (k : Nat) : FuncId := if k = 1 then 50 else if k = 2 then 51 else if k = 3 then 52 else if k = 4 then 50 else if k = 5 then 53 else if k = 6 then 55 else if k = 7 then 56 else if k = 8 then 57 else if k = 9 then 58 else 54
/-- A part whose parts stand ahead. -/
structure WfR (i : Nat) (r : RNo) : Prop where
  k1 : 1 ≤ r.kind
  k2 : r.kind ≤ 10
  byt : Byt r.text
  len : r.text.length ≤ 16384
  a : bndK r.kind < 5 → ∃ ka : Nat, r.a = (ka : Int) ∧ ka < i
  b : bndK r.kind < 3 → ∃ kb : Nat, r.b = (kb : Int) ∧ kb < i
  n : r.kind = 10 → ∃ kn : Nat, r.n = (kn : Int) ∧ kn ≤ 64
def WfN (N : List RNo) : Prop := ∀ i, i < N.length → WfR i N[i]!
/-- TrimSpace of the signs. -/
def TrC (B : Nat) (ti : Bool) (w0 : World) : Prop := ti = true → ∀ (k : Nat) (W : World), 6 ≤ k → k ≤ 9 → Below B w0 W → Calls Tryz.prog 82 #[.string (mkS (sgnW false k))] W (fun e w' => e = .returned (.string (mkS (sgnW true k))) ∧ Below W.heap.size W w')
/-- The map of the functions. -/
def FnD (DK : DataW Unit) : Prop := ∀ k : Nat, 1 ≤ k → k ≤ 10 → DK.atKey (.int .u8 (k : Int)) (.lit (.int .i64 (-1))) = .lit (.int .i64 (fidK k : Int))
theorem lawU8 : Keyed Tryz.prog 50 := int_keyed Tryz.underlying50
theorem zeroFn (W : World) : (zeroValue 84).run Tryz.prog W = .ok .nilFunc W := by kernel_rfl
theorem wf_u8 {k : Nat} (h : k ≤ 10) : (Lit.int .u8 (k : Int)).wf = true := by
  have : ∀ j : Nat, j ≤ 10 → (Lit.int .u8 (j : Int)).wf = true := by decide
  exact this k h
theorem fnElem_inv {v : Value} {f : Nat} {ps : List MemPlace} (h : fnElem v = some (.lit (.int .i64 (f : Int)), ps)) : v = .func (.func f) #[] #[] := by
  unfold fnElem at h
  split at h
  · split at h
    · rename_i hs
      injection h with h
      injection h with h1 h2
      injection h1 with h1
      injection h1 with _ h1
      have e := Int.ofNat.inj h1
      rw [Array.eq_empty_of_size_eq_zero hs.1, Array.eq_empty_of_size_eq_zero hs.2, e]
    · cases h
  · injection h with h
    injection h with h1 h2
    injection h1 with h1
    injection h1 with _ h1
    omega
  · cases h
theorem len_partW0 (N : List RNo) (ti : Bool) (hw : ∀ i : Nat, N[i]!.text.length ≤ 16384) (hn : ∀ i : Nat, N[i]!.kind = 10 → (digL N[i]!.n.toNat).length ≤ 2) : ∀ f : Nat, (∀ (at_ least : Nat) (b : List Nat), (partW N ti f at_ least b).length ≤ max b.length (32769 + 10 * f)) ∧ ∀ (at_ : Nat) (b : List Nat), b.length ≤ 16385 → (kindW (partW N ti f) ti N[at_]! b).length ≤ 32769 + 10 * f + 8 := by
  have step : ∀ f : Nat, (∀ (at_ least : Nat) (b : List Nat), (partW N ti f at_ least b).length ≤ max b.length (32769 + 10 * f)) → ∀ (at_ : Nat) (b : List Nat), b.length ≤ 16385 → (kindW (partW N ti f) ti N[at_]! b).length ≤ 32769 + 10 * f + 8 := by
    intro f ih at_
    have hk : ∀ b : List Nat, b.length ≤ 16385 → (kindW (partW N ti f) ti N[at_]! b).length ≤ 32769 + 10 * f + 8 := by
      intro b hb
      have h1 := hw at_
      have h2 := hn at_
      unfold kindW pairW
      have s3 : ∀ k, (sgnW ti k).length ≤ 3 := by
        intro k
        unfold sgnW
        split
        · cases ti <;> decide
        · split
          · cases ti <;> decide
          · split <;> decide
      split
      · simp; omega
      · split
        · simp; omega
        · split
          · have := ih N[at_]!.a.toNat 3 (b ++ [45])
            simp only [List.length_append, List.length_singleton] at this
            omega
          · split
            · have h2 := h2 (by assumption)
              have := ih N[at_]!.a.toNat 5 b
              simp only [List.length_append, List.length_singleton]
              omega
            · split
              · have a1 := ih N[at_]!.a.toNat 1 b
                have a2 := ih N[at_]!.b.toNat (1 + 1) (partW N ti f N[at_]!.a.toNat 1 b ++ sgnW ti N[at_]!.kind)
                have a3 := s3 N[at_]!.kind
                simp only [List.length_append] at a2
                omega
              · split
                · have a1 := ih N[at_]!.a.toNat 2 b
                  have a2 := ih N[at_]!.b.toNat (2 + 1) (partW N ti f N[at_]!.a.toNat 2 b ++ sgnW ti N[at_]!.kind)
                  have a3 := s3 N[at_]!.kind
                  simp only [List.length_append] at a2
                  omega
                · simp only [List.length_append]
                  omega
    exact hk
  intro f
  induction f with
  | zero => exact ⟨fun at_ least b => by simp [partW]; omega, step 0 (fun at_ least b => by simp [partW]; omega)⟩
  | succ f ih =>
    have hk := ih.2
    have hA : ∀ (at_ least : Nat) (b : List Nat), (partW N ti (f + 1) at_ least b).length ≤ max b.length (32769 + 10 * (f + 1)) := by
      intro at_ least b
      rw [partW]
      split
      · omega
      · split
        · have := hk at_ (b ++ [40]) (by simp; omega)
          simp only [List.length_append, List.length_singleton]
          omega
        · have := hk at_ b (by omega)
          omega
    exact ⟨hA, step (f + 1) hA⟩
theorem len_partW (N : List RNo) (ti : Bool) (hw : ∀ i : Nat, N[i]!.text.length ≤ 16384) (hn : ∀ i : Nat, N[i]!.kind = 10 → (digL N[i]!.n.toNat).length ≤ 2) : ∀ (f at_ least : Nat) (b : List Nat), (partW N ti f at_ least b).length ≤ max b.length (32769 + 10 * f) := fun f => (len_partW0 N ti hw hn f).1
theorem len_kindW (N : List RNo) (ti : Bool) (hw : ∀ i : Nat, N[i]!.text.length ≤ 16384) (hn : ∀ i : Nat, N[i]!.kind = 10 → (digL N[i]!.n.toNat).length ≤ 2) : ∀ (f at_ : Nat) (b : List Nat), b.length ≤ 16385 → (kindW (partW N ti f) ti N[at_]! b).length ≤ 32769 + 10 * f + 8 := fun f => (len_partW0 N ti hw hn f).2
set_option maxRecDepth 100000 in
theorem fidK_call (k : Nat) (args : Array Value) (W : World) : (callFunc (fidK k) args).run Tryz.prog W = .ok (.enter (fidK k) args) W := by
  unfold fidK
  split
  · rfl
  · split
    · rfl
    · split
      · rfl
      · split
        · rfl
        · split
          · rfl
          · split
            · rfl
            · split
              · rfl
              · split
                · rfl
                · split <;> rfl
section
variable {B x gk : Nat} {vN vL : Value} {m : Int} {ti : Bool} {DK : DataW Unit} {b : List Nat} {w0 w w' : World} {pw : Nat → Nat → List Nat → List Nat} {ok : Nat → Prop}
/-- what a part's own function writes -/
theorem kind_calls (hP : PWc B x gk DK vN vL m ti w0 pw ok) (hT : TrC B ti w0) {at_ : Nat} (r : RNo) (hwf : WfR at_ r) (hok : ∀ k, k < at_ → ok k) (h : WrS B x gk DK vN vL m ti b w) (hb0 : Below B w0 w) (hl : b.length ≤ 16385) : Calls Tryz.prog (fidK r.kind) #[.pointer (some ⟨x, 0, none⟩), .agg #[.int .u8 (r.kind : Int), .string (mkS r.text), .int .i64 r.a, .int .i64 r.b, .int .i64 r.n]] w (fun e w' => e = .returned (.tuple #[]) ∧ WrS B x gk DK vN vL m ti (kindW pw ti r b) w' ∧ Below B w w' ∧ TwU x w w') := by
  have hk1 := hwf.k1
  have hk2 := hwf.k2
  have hc : r.kind = 1 ∨ r.kind = 2 ∨ r.kind = 3 ∨ r.kind = 4 ∨ r.kind = 5 ∨ r.kind = 6 ∨ r.kind = 7 ∨ r.kind = 8 ∨ r.kind = 9 ∨ r.kind = 10 := by omega
  rcases hc with hk | hk | hk | hk | hk | hk | hk | hk | hk | hk
  · have ef : fidK r.kind = 50 := by rw [hk]; rfl
    have hkw : kindW pw ti r b = b ++ r.text := by
      unfold kindW
      simp [hk]
    rw [hkw]
    rw [ef]
    exact w_atom r hwf.byt hwf.len h (by omega)
  · have ef : fidK r.kind = 51 := by rw [hk]; rfl
    have hkw : kindW pw ti r b = b ++ [105] := by
      unfold kindW
      simp [hk]
    rw [hkw]
    rw [ef]
    exact w_i r h (by omega)
  · have ef : fidK r.kind = 52 := by rw [hk]; rfl
    have hkw : kindW pw ti r b = b ++ [122] := by
      unfold kindW
      simp [hk]
    rw [hkw]
    rw [ef]
    exact w_z r h (by omega)
  · have ef : fidK r.kind = 50 := by rw [hk]; rfl
    have hkw : kindW pw ti r b = b ++ r.text := by
      unfold kindW
      simp [hk]
    rw [hkw]
    rw [ef]
    exact w_atom r hwf.byt hwf.len h (by omega)
  · have ef : fidK r.kind = 53 := by rw [hk]; rfl
    obtain ⟨ka, hka, hka2⟩ := hwf.a (by rw [hk]; decide)
    have ea : r.a.toNat = ka := by rw [hka]; rfl
    have hkw : kindW pw ti r b = pw ka 3 (b ++ [45]) := by
      unfold kindW
      simp [hk, ea]
    rw [hkw, ef]
    exact w_neg hP r ka hka (hok ka hka2) h hb0 hl
  · have ef : fidK r.kind = 55 := by rw [hk]; rfl
    obtain ⟨ka, hka, hka2⟩ := hwf.a (by rw [hk]; decide)
    have ea : r.a.toNat = ka := by rw [hka]; rfl
    obtain ⟨kb, hkb, hkb2⟩ := hwf.b (by rw [hk]; decide)
    have eb : r.b.toNat = kb := by rw [hkb]; rfl
    have hkw : kindW pw ti r b = pw kb (1 + 1) (pw ka 1 b ++ sgnW ti 6) := by
      unfold kindW pairW
      simp [hk, ea, eb]
    rw [hkw, ef]
    exact w_add hP r ka kb hka hkb (hok ka hka2) (hok kb hkb2) (fun e W hW => hT e 6 W (by omega) (by omega) hW) h hb0 hl
  · have ef : fidK r.kind = 56 := by rw [hk]; rfl
    obtain ⟨ka, hka, hka2⟩ := hwf.a (by rw [hk]; decide)
    have ea : r.a.toNat = ka := by rw [hka]; rfl
    obtain ⟨kb, hkb, hkb2⟩ := hwf.b (by rw [hk]; decide)
    have eb : r.b.toNat = kb := by rw [hkb]; rfl
    have hkw : kindW pw ti r b = pw kb (1 + 1) (pw ka 1 b ++ sgnW ti 7) := by
      unfold kindW pairW
      simp [hk, ea, eb]
    rw [hkw, ef]
    exact w_sub hP r ka kb hka hkb (hok ka hka2) (hok kb hkb2) (fun e W hW => hT e 7 W (by omega) (by omega) hW) h hb0 hl
  · have ef : fidK r.kind = 57 := by rw [hk]; rfl
    obtain ⟨ka, hka, hka2⟩ := hwf.a (by rw [hk]; decide)
    have ea : r.a.toNat = ka := by rw [hka]; rfl
    obtain ⟨kb, hkb, hkb2⟩ := hwf.b (by rw [hk]; decide)
    have eb : r.b.toNat = kb := by rw [hkb]; rfl
    have hkw : kindW pw ti r b = pw kb (2 + 1) (pw ka 2 b ++ sgnW ti 8) := by
      unfold kindW pairW
      simp [hk, ea, eb]
    rw [hkw, ef]
    exact w_mul hP r ka kb hka hkb (hok ka hka2) (hok kb hkb2) (fun e W hW => hT e 8 W (by omega) (by omega) hW) h hb0 hl
  · have ef : fidK r.kind = 58 := by rw [hk]; rfl
    obtain ⟨ka, hka, hka2⟩ := hwf.a (by rw [hk]; decide)
    have ea : r.a.toNat = ka := by rw [hka]; rfl
    obtain ⟨kb, hkb, hkb2⟩ := hwf.b (by rw [hk]; decide)
    have eb : r.b.toNat = kb := by rw [hkb]; rfl
    have hkw : kindW pw ti r b = pw kb (2 + 1) (pw ka 2 b ++ sgnW ti 9) := by
      unfold kindW pairW
      simp [hk, ea, eb]
    rw [hkw, ef]
    exact w_quo hP r ka kb hka hkb (hok ka hka2) (hok kb hkb2) (fun e W hW => hT e 9 W (by omega) (by omega) hW) h hb0 hl
  · have ef : fidK r.kind = 54 := by rw [hk]; rfl
    obtain ⟨ka, hka, hka2⟩ := hwf.a (by rw [hk]; decide)
    have ea : r.a.toNat = ka := by rw [hka]; rfl
    obtain ⟨kn, hkn, hkn2⟩ := hwf.n hk
    have en : r.n.toNat = kn := by rw [hkn]; rfl
    have hkw : kindW pw ti r b = pw ka 5 b ++ [94] ++ digL kn := by
      unfold kindW
      simp [hk, ea, en]
    rw [hkw, ef]
    exact w_pow hP r ka kn hka hkn hkn2 (hok ka hka2) h hb0 hl
set_option maxRecDepth 100000 in
set_option maxHeartbeats 4000000 in
/-- part -/
theorem part_go {N : List RNo} {Fk : FuncId} {at_ least : Nat} (hcf : ∀ (args : Array Value) (W : World), (callFunc Fk args).run Tryz.prog W = .ok (.enter Fk args) W) (r : RNo) (kw : List Nat → List Nat)
    (hK : ∀ (b : List Nat) (W : World), WrS B x gk DK vN vL m ti b W → Below B w0 W → b.length ≤ 16385 → Calls Tryz.prog Fk #[.pointer (some ⟨x, 0, none⟩), .agg #[.int .u8 (r.kind : Int), .string (mkS r.text), .int .i64 r.a, .int .i64 r.b, .int .i64 r.n]] W (fun e w' => e = .returned (.tuple #[]) ∧ WrS B x gk DK vN vL m ti (kw b) w' ∧ Below B W w' ∧ TwU x W w'))
    (hkl : ∀ b : List Nat, b.length ≤ 16385 → (kw b).length ≤ 80000)
    (hat : DK.atKey (.int .u8 (r.kind : Int)) (.lit (.int .i64 (-1))) = .lit (.int .i64 (Fk : Int))) (hk2 : r.kind ≤ 10)
    (hN : NodesK B w0 vN N) (hai : at_ < N.length) (hr : N[at_]! = r) (hle : least ≤ 5) (h : WrS B x gk DK vN vL m ti b w) (hb0 : Below B w0 w) (hl : b.length ≤ 90000) :
    Calls Tryz.prog 60 #[.pointer (some ⟨x, 0, none⟩), .int .i64 (at_ : Int), .int .i64 (least : Int)] w (fun e w' => e = .returned (.tuple #[]) ∧ WrS B x gk DK vN vL m ti (if 16384 < b.length then b else if bndK r.kind < least then kw (b ++ [40]) ++ [41] else kw b) w' ∧ Below B w w' ∧ TwU x w w') := by
  have hN1 := hN.below hb0
  clear hN
  obtain ⟨AN, cN, eN, hN2⟩ := hN1
  obtain ⟨g, o, eA, hgB, hN3⟩ := hN2 (by omega)
  subst eA
  have hq : ∀ (j : Nat) (u : Value), (encR r)[j]? = some u → w.cell? ⟨g, o + at_ * 5 + j, none⟩ = some u := fun j u hu => hN3 at_ hai j u (by rw [hr]; exact hu)
  obtain ⟨nl, hnl⟩ : ∃ n, n = N.length := ⟨_, rfl⟩
  rw [← hnl] at hai eN
  have q0 : w.cell? ⟨g, o + at_ * 5, none⟩ = some (.int .u8 (r.kind : Int)) := hq 0 _ rfl
  have q1 : w.cell? ⟨g, o + at_ * 5 + 1, none⟩ = some (.string (mkS r.text)) := hq 1 _ rfl
  have q2 : w.cell? ⟨g, o + at_ * 5 + 2, none⟩ = some (.int .i64 r.a) := hq 2 _ rfl
  have q3 : w.cell? ⟨g, o + at_ * 5 + 3, none⟩ = some (.int .i64 r.b) := hq 3 _ rfl
  have q4 : w.cell? ⟨g, o + at_ * 5 + 4, none⟩ = some (.int .i64 r.n) := hq 4 _ rfl
  have x0 : w.cell? ⟨x, 0, none⟩ = some (.slice (some ⟨g, o, none⟩) nl cN) := by
    obtain ⟨ad, vB, had, hk, -⟩ := h
    rw [← eN]
    exact hk.cell 0
  replace eN := Lib.hid eN
  replace hnl := Lib.hid hnl
  obtain ⟨h1, kb, hx, hB, hT, h0⟩ := boxed h hb0 #[.int .u8 (r.kind : Int), .string (mkS r.text), .int .i64 r.a, .int .i64 r.b, .int .i64 r.n]
  generalize hW : w.alloc (.cells #[.int .u8 (r.kind : Int), .string (mkS r.text), .int .i64 r.a, .int .i64 r.b, .int .i64 r.n] 52) = w1 at h1 kb hB hT h0
  generalize hg : w.heap.size = bx at kb hx
  obtain ⟨bl, hbl⟩ : ∃ n, n = b.length := ⟨_, rfl⟩
  have cL : Hid (Calls Tryz.prog 61 #[.pointer (some ⟨x, 4, none⟩)] w1 (fun e w' => e = .returned (.int .i64 (bl : Int)) ∧ w' = w1)) := Lib.hid (by rw [hbl]; exact wLen h1)
  replace hW := Lib.hid hW
  replace hg := Lib.hid hg
  replace h := Lib.hid h
  replace h1 := Lib.hid h1
  replace kb := Lib.hid kb
  replace hB := Lib.hid hB
  replace hT := Lib.hid hT
  replace h0 := Lib.hid h0
  replace hK := Lib.hid hK
  replace hkl := Lib.hid hkl
  replace hat := Lib.hid hat
  replace hr := Lib.hid hr
  clear hq hN2 hN3 hgB hb0 hl
  by_cases hlong : 16384 < b.length
  case pos =>
    rw [if_pos hlong]
    have hI : ((bl : Int) > 16384) := by omega
    replace hbl := Lib.hid hbl
    clear hlong
    go_enter Tryz.func60, Tryz.ntmps60
    go_upto_region 1 with fail
    rw [hW.out, hg.out]
    go_wp2_with fail
    refine cL.out.mono ?_
    rintro en w2 ⟨rfl, rfl⟩
    go_wp2_with fail
    refine bodyPost_ret (v := .tuple #[]) (results_none rfl _ _ _) rfl ?_
    exact ⟨rfl, h1.out, hB.out, hT.out⟩
  case neg =>
    rw [if_neg hlong]
    obtain ⟨RV, hRV⟩ : ∃ R, R = if bndK r.kind < least then kw (b ++ [40]) ++ [41] else kw b := ⟨_, rfl⟩
    rw [← hRV]
    replace hRV := Lib.hid hRV
    have hI : ¬ ((bl : Int) > 16384) := by omega
    have hbs : b.length ≤ 16384 := by omega
    replace hbl := Lib.hid hbl
    clear hlong
    go_enter Tryz.func60, Tryz.ntmps60
    go_upto_region 1 with fail
    rw [hW.out, hg.out]
    replace hbs := Lib.hid hbs
    go_wp2_with fail
    refine cL.out.mono ?_
    rintro en w2 ⟨rfl, rfl⟩
    have qk : w2.cell? ⟨bx, 0, none⟩ = some (.int .u8 (r.kind : Int)) := kb.out.cell 0
    have cBd := Lib.hid (bound_any r.kind w2)
    clear cL
    obtain ⟨bd, hbd⟩ : ∃ n, n = bndK r.kind := ⟨_, rfl⟩
    rw [← hbd] at cBd
    replace hbd := Lib.hid hbd
    go_wp2_with fail
    refine cBd.out.mono ?_
    rintro en w3 ⟨rfl, rfl⟩
    clear cBd qk
    by_cases hloose : bndK r.kind < least
    case pos =>
      replace hRV := Lib.hid (hRV.out.trans (if_pos hloose))
      have hI2 : ((bd : Int) < (least : Int)) := by have := hbd.out; omega
      clear hloose
      have cB := Lib.hid (wWriteByte h1.out 40 (by omega) (by have := hbs.out; omega))
      go_wp2_with fail
      refine cB.out.mono ?_
      rintro en w4 ⟨⟨v, rfl⟩, h4, hB4, hT4⟩
      clear cB
      replace kb := Lib.hid (hT4.blk kb.out (by decide) hx)
      replace hB := Lib.hid (hB.out.trans hB4)
      replace h0 := Lib.hid (h0.out.trans hB4)
      replace hT := Lib.hid (hT.out.trans hT4)
      replace h1 := Lib.hid h4
      clear hB4 hT4
      have cK := fun W (hb : Below w4.heap.size w4 W) => hK.out (b ++ [40]) W (h1.out.below hb) (h0.out.trans (hb.mono h1.out.lt.2)) (by have := hbs.out; simp; omega)
      have hM : ∀ W, Below w4.heap.size w4 W → (Instr.lookup 86 (.map (some gk)) (.int .u8 (r.kind : Int)) false).run Tryz.prog W = .ok (.func (.func Fk) #[] #[]) W := by
        intro W hb
        obtain ⟨ad, vB, had, hk, hrow, hM, hx, hgk, hby⟩ := h1.out.below hb
        obtain ⟨v, ps, hrun, hv⟩ := hM.lookup lawU8 Tryz.underlying86 (zeroFn W) (zd := .lit (.int .i64 (-1))) (zp := []) rfl (keyOf_int_mk Tryz.underlying50 (a := (r.kind : Int)) (wf_u8 hk2))
        rw [hat.out] at hv
        rw [hrun, fnElem_inv hv]
      have hLk : ∀ d os, (Instr.lookup 86 (.map (some gk)) (.int .u8 (r.kind : Int)) false).run Tryz.prog (grow (redrawn w4 d) os) = .ok (.func (.func Fk) #[] #[]) (grow (redrawn w4 d) os) := fun d os => hM _ (below_regrown w4 d os)
      have x6 : ∀ d os, (grow (redrawn w4 d) os).cell? ⟨x, 6, none⟩ = some (.map (some gk)) := cell_regrown (by
        obtain ⟨ad, vB, had, hk, -⟩ := h1.out
        exact hk.cell 6)
      have z0 : ∀ d os, (grow (redrawn w4 d) os).cell? ⟨bx, 0, none⟩ = some (.int .u8 (r.kind : Int)) := cell_regrown (kb.out.cell 0)
      have z1 : ∀ d os, (grow (redrawn w4 d) os).cell? ⟨bx, 1, none⟩ = some (.string (mkS r.text)) := cell_regrown (kb.out.cell 1)
      have z2 : ∀ d os, (grow (redrawn w4 d) os).cell? ⟨bx, 2, none⟩ = some (.int .i64 r.a) := cell_regrown (kb.out.cell 2)
      have z3 : ∀ d os, (grow (redrawn w4 d) os).cell? ⟨bx, 3, none⟩ = some (.int .i64 r.b) := cell_regrown (kb.out.cell 3)
      have z4 : ∀ d os, (grow (redrawn w4 d) os).cell? ⟨bx, 4, none⟩ = some (.int .i64 r.n) := cell_regrown (kb.out.cell 4)
      replace cK := Lib.hid cK
      clear hM
      go_upto_region 5 with fail
      refine wp_region_tail_below 9 (by kernel_rfl) (by kernel_rfl) ?_
      simp only [List.take_succ_cons, List.take_zero, List.drop_succ_cons, List.drop_zero]
      iterate 6 (quiet_step (fail))
      iterate 3 (quiet_step (fail))
      refine wpQuiet_nil ?_
      intro w5 hb5
      have cK2 := Lib.hid (cK.out w5 hb5)
      replace hB := Lib.hid (hB.out.trans (hb5.mono h1.out.lt.2))
      replace hT := Lib.hid (hT.out.trans (TwU.below hb5))
      clear hb5 cK hLk x6 z0 z1 z2 z3 z4
      go_wp2_with fail
      refine cK2.out.mono ?_
      rintro en w6 ⟨rfl, h6, hB6, hT6⟩
      replace h6 := Lib.hid h6
      replace hB := Lib.hid (hB.out.trans hB6)
      replace hT := Lib.hid (hT.out.trans hT6)
      clear cK2 hB6 hT6
      have cC := Lib.hid (wWriteByte h6.out 41 (by omega) (by have := hkl.out (b ++ [40]) (by have := hbs.out; simp; omega); omega))
      go_wp2_with fail
      refine cC.out.mono ?_
      rintro en w7 ⟨⟨v, rfl⟩, h7, hB7, hT7⟩
      replace h7 := Lib.hid h7
      replace hB := Lib.hid (hB.out.trans hB7)
      replace hT := Lib.hid (hT.out.trans hT7)
      go_wp2_with fail
      go_end0
      exact ⟨rfl, by rw [hRV.out]; exact h7.out, hB.out, hT.out⟩
    case neg =>
      replace hRV := Lib.hid (hRV.out.trans (if_neg hloose))
      have hI2 : ¬ ((bd : Int) < (least : Int)) := by have := hbd.out; omega
      clear hloose
      have cK := fun W (hb : Below w3.heap.size w3 W) => hK.out b W (h1.out.below hb) (h0.out.trans (hb.mono h1.out.lt.2)) (by have := hbs.out; simp; omega)
      have hM : ∀ W, Below w3.heap.size w3 W → (Instr.lookup 86 (.map (some gk)) (.int .u8 (r.kind : Int)) false).run Tryz.prog W = .ok (.func (.func Fk) #[] #[]) W := by
        intro W hb
        obtain ⟨ad, vB, had, hk, hrow, hM, hx, hgk, hby⟩ := h1.out.below hb
        obtain ⟨v, ps, hrun, hv⟩ := hM.lookup lawU8 Tryz.underlying86 (zeroFn W) (zd := .lit (.int .i64 (-1))) (zp := []) rfl (keyOf_int_mk Tryz.underlying50 (a := (r.kind : Int)) (wf_u8 hk2))
        rw [hat.out] at hv
        rw [hrun, fnElem_inv hv]
      have hLk : ∀ d os, (Instr.lookup 86 (.map (some gk)) (.int .u8 (r.kind : Int)) false).run Tryz.prog (grow (redrawn w3 d) os) = .ok (.func (.func Fk) #[] #[]) (grow (redrawn w3 d) os) := fun d os => hM _ (below_regrown w3 d os)
      have x6 : ∀ d os, (grow (redrawn w3 d) os).cell? ⟨x, 6, none⟩ = some (.map (some gk)) := cell_regrown (by
        obtain ⟨ad, vB, had, hk, -⟩ := h1.out
        exact hk.cell 6)
      have z0 : ∀ d os, (grow (redrawn w3 d) os).cell? ⟨bx, 0, none⟩ = some (.int .u8 (r.kind : Int)) := cell_regrown (kb.out.cell 0)
      have z1 : ∀ d os, (grow (redrawn w3 d) os).cell? ⟨bx, 1, none⟩ = some (.string (mkS r.text)) := cell_regrown (kb.out.cell 1)
      have z2 : ∀ d os, (grow (redrawn w3 d) os).cell? ⟨bx, 2, none⟩ = some (.int .i64 r.a) := cell_regrown (kb.out.cell 2)
      have z3 : ∀ d os, (grow (redrawn w3 d) os).cell? ⟨bx, 3, none⟩ = some (.int .i64 r.b) := cell_regrown (kb.out.cell 3)
      have z4 : ∀ d os, (grow (redrawn w3 d) os).cell? ⟨bx, 4, none⟩ = some (.int .i64 r.n) := cell_regrown (kb.out.cell 4)
      replace cK := Lib.hid cK
      clear hM
      go_upto_region 5 with fail
      refine wp_region_tail_below 9 (by kernel_rfl) (by kernel_rfl) ?_
      simp only [List.take_succ_cons, List.take_zero, List.drop_succ_cons, List.drop_zero]
      iterate 6 (quiet_step (fail))
      iterate 3 (quiet_step (fail))
      refine wpQuiet_nil ?_
      intro w5 hb5
      have cK2 := Lib.hid (cK.out w5 hb5)
      replace hB := Lib.hid (hB.out.trans (hb5.mono h1.out.lt.2))
      replace hT := Lib.hid (hT.out.trans (TwU.below hb5))
      clear hb5 cK hLk x6 z0 z1 z2 z3 z4
      go_wp2_with fail
      refine cK2.out.mono ?_
      rintro en w6 ⟨rfl, h6, hB6, hT6⟩
      replace h6 := Lib.hid h6
      replace hB := Lib.hid (hB.out.trans hB6)
      replace hT := Lib.hid (hT.out.trans hT6)
      clear cK2 hB6 hT6
      go_wp2_with fail
      go_end0
      exact ⟨rfl, by rw [hRV.out]; exact h6.out, hB.out, hT.out⟩
/-- part, by induction -/
theorem part_all {N : List RNo} (hFD : FnD DK) (hW : WfN N) (hN : NodesK B w0 vN N) (hT : TrC B ti w0) (hlen : N.length ≤ 4096) : ∀ f, f ≤ 4097 → PWc B x gk DK vN vL m ti w0 (partW N ti f) (fun k => k < f ∧ k < N.length) := by
  have hout : ∀ i : Nat, ¬ i < N.length → N[i]! = ⟨0, [], 0, 0, 0⟩ := fun i hi => by rw [getElem!_neg N i (by omega)]; rfl
  have ht : ∀ i : Nat, N[i]!.text.length ≤ 16384 := fun i => by
    by_cases hi : i < N.length
    · exact (hW i hi).len
    · rw [hout i hi]; simp
  have hn : ∀ i : Nat, N[i]!.kind = 10 → (digL N[i]!.n.toNat).length ≤ 2 := fun i hk => by
    by_cases hi : i < N.length
    · obtain ⟨kn, hkn, hkn2⟩ := (hW i hi).n hk
      rw [hkn]
      show (digL kn).length ≤ 2
      unfold digL
      split <;> simp
    · rw [hout i hi] at hk; cases hk
  intro f
  induction f with
  | zero => exact fun _ => ⟨fun at_ least b w h => absurd h.1 (by omega), fun at_ least b h => absurd h.1 (by omega)⟩
  | succ f ih =>
    intro hf
    have hP := ih (by omega)
    refine ⟨fun at_ least b w hok hle h hb0 hl => ?_, fun at_ least b _ hl => by have := len_partW N ti ht hn (f + 1) at_ least b; omega⟩
    have hwf := hW at_ hok.2
    rw [partW]
    exact part_go (fidK_call _) N[at_]! (kindW (partW N ti f) ti N[at_]!) (fun b W hW hb hl => kind_calls hP hT N[at_]! hwf (fun k hk => ⟨by omega, by omega⟩) hW hb hl) (fun b hb => by have := len_kindW N ti ht hn f at_ b hb; omega) (hFD _ hwf.k1 hwf.k2) hwf.k2 hN hok.2 rfl hle h hb0 hl
end
end Go.Proofs.YtnaadajcehfmiaaGreatDoor
