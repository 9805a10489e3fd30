/- lang: atom. -/
import Derived.Test.YtnaadajcehfmiaaGreatDoorLrF
namespace Go.Proofs.YtnaadajcehfmiaaGreatDoor
open Go.RowKit Go.Sort Go.Maps

section
variable {H : Type} {P : Program} {ops : Array Oper} {rest : List Oper} {o : Oper} {a : Act} {Q : Exit → Act → World → Prop}
/-- A look-up, elements that are Booleans. -/
theorem wpList_look_bool (w : World) (hg : o.guard = none) (m x : Operand) (t : TypeId) (hop : o.op = Op.lookup t m x false)
    (k e : TypeId) (K : Keyed P k) (ht : P.underlying t = some (.map k e)) (he : P.underlying e = some .bool) (hz : (zeroValue e).run P w = .ok (.bool false) w) (b n : Nat) (D : DataW H)
    (hm : a.eval m = .map (some b)) (hown : w.ownsMap P k (plainElem P e) b n D) (key : Value) (kl : Lit) (hx : a.eval x = key) (hkey : keyOf P k key = some kl) (c : Bool) (hat : D.atKey kl (.lit (.bool false)) = .lit (.bool c))
    (hK : wpList P ops Q rest (a.put o.dst (.bool c)) w) :
    wpList P ops Q (o :: rest) a w := by
  refine wpList_plain hg fun K' hK' => ?_
  obtain ⟨v, ps, hrun, hv⟩ := hown.lookup K ht hz (zd := .lit (.bool false)) (zp := []) (plainElem_bool he false) hkey
  rw [hat] at hv
  have hvv : v = .bool c := by
    unfold plainElem at hv
    rw [he] at hv
    cases v <;> simp_all
  subst hvv
  unfold Oper.wp
  simp [execOp, hop, hm, hx, hrun, Result.andThen]
  exact hK' _ _ hK
end
theorem zeroBo (W : World) : (zeroValue 4).run Tryz.prog W = .ok (.bool false) W := by kernel_rfl
section
variable {s : ByteArray} {last : Nat} {wrong : Bool} {B p gm o : Nat} {X : List It} {st : PS} {w w' : World}
theorem RdS.names (h : RdS s last wrong B p gm X o st w) : ∃ (D : DataW Unit) (n : Nat), w.ownsMap Tryz.prog 9 (plainElem Tryz.prog 4) gm n D ∧ NamesD D st.names ∧ w.cell? ⟨p, 10, none⟩ = some (.map (some gm)) := by
  obtain ⟨nx, vN, vL, vH, D, h1, h2, h3, h4, h5⟩ := h
  have hb : Blk w p 42 (rdC s (st.pl last) (mkS st.tx) (st.T.isEmpty && wrong) nx o vN vL vH gm) := h1.1 _ (List.mem_cons_self ..)
  exact ⟨D, st.L.length, h1.1 (itMap Tryz.prog 9 (plainElem Tryz.prog 4) gm st.L.length D) (by simp), h2, hb.cell 10⟩
theorem RdS.setOpen (h : RdS s last wrong B p gm X o st w) (o' : Nat) : RdS s last wrong B p gm X o' st (w.setCell ⟨p, 5, none⟩ (.int .i64 (o' : Int))) ∧ Below B w (w.setCell ⟨p, 5, none⟩ (.int .i64 (o' : Int))) := by
  obtain ⟨nx, vN, vL, vH, D, h1, h2, h3, h4, h5⟩ := h
  have hb : Blk w p 42 (rdC s (st.pl last) (mkS st.tx) (st.T.isEmpty && wrong) nx o vN vL vH gm) := h1.1 _ (List.mem_cons_self ..)
  have hs := Blk.set_ hb 5 (.int .i64 (o' : Int))
  exact ⟨⟨nx, vN, vL, vH, D, Sep.one h1 (gb_set (gb_refl w _) 5 _) hs (fun k hk => .inl hk), h2, h3, h4, h5⟩, (Below.refl B w).setCell (p := ⟨p, 5, none⟩) h4 _⟩
/-- What is known of the brackets within. -/
def InnC (s : ByteArray) (last : Nat) (wrong : Bool) (B p gm o : Nat) (inner : Option PF) : Prop :=
  match inner with
  | none => o = 64
  | some f => o < 64 ∧ PartC 25 s last wrong B p gm (o + 1) f
/-- A part, and on. -/
def onR (r : PR Nat) : PR Nat := match r with | .ok v st1 => .ok v st1.on | .no x y => .no x y
theorem addOn_eq (n : Nod) (hg at_ : Nat) (st : PS) : addOn n hg at_ st = onR (addP n hg at_ st) := by
  unfold addOn onR
  rfl
theorem tx_T (h : st.tx ≠ []) : st.T ≠ [] := fun e => h (by unfold PS.tx; rw [e])
set_option maxRecDepth 100000 in
set_option maxHeartbeats 8000000 in
/-- atom -/
theorem atom_rd {inner : Option PF} (hin : InnC s last wrong B p gm o inner) : PartC 84 s last wrong B p gm o (atomP last wrong inner) := by
  intro X st w r h hr
  have hlt := h.lt
  have c1 : ∀ d os, (grow (redrawn w d) os).cell? ⟨p, 1, none⟩ = some (.int .i64 (st.pl last : Int)) := cell_regrown h.from_
  have c2 : ∀ d os, (grow (redrawn w d) os).cell? ⟨p, 2, none⟩ = some (.string (mkS st.tx)) := cell_regrown h.token
  have hbyt := h.byt
  have i1 := mkS_is hbyt [40] (by unfold Byt; simp)
  have i2 := mkS_is hbyt [105] (by unfold Byt; simp)
  have i3 := mkS_is hbyt [122] (by unfold Byt; simp)
  have cNm := Lib.hid (fun W => name_any st.tx hbyt W)
  have hkey := Lib.hid (WideMaps.keyOf_string_mk Tryz.underlying9 (s := mkS st.tx) (by have := h.tsz; unfold maxLen; omega))
  obtain ⟨pl0, hpl0⟩ : ∃ q, q = st.pl last := ⟨_, rfl⟩
  obtain ⟨tk, htk⟩ : ∃ q, q = mkS st.tx := ⟨_, rfl⟩
  have cU : Hid (∀ W a c, RdS s last wrong B p gm X o st W → (unwP last wrong st : PR Nat) = .no a c → Calls Tryz.prog 22 #[.pointer (some ⟨p, 0, none⟩)] W (PanF B a c W)) := Lib.hid (fun W a c hW hu => unwS hW hu)
  simp only [← htk] at c2 i1 i2 i3 cNm hkey
  simp only [← hpl0] at c1
  have hh := Lib.hid h
  replace hpl0 := Lib.hid hpl0
  replace htk := Lib.hid htk
  replace hr := Lib.hid hr
  replace hin := Lib.hid hin
  replace hbyt := Lib.hid hbyt
  clear h
  go_enter Tryz.func84, Tryz.ntmps84
  go_upto_region 1 with fail
  refine wp_region_quiet_below (by kernel_rfl) (by kernel_rfl) ?_
  iterate 10 (quiet_step (fail))
  refine wpQuiet_nil ?_
  intro w1 hw'
  have hE : Below w.heap.size w w1 := by
    obtain ⟨q, rfl⟩ := hw'
    exact below_regrown w q.d q.os
  clear hw' c1 c2
  have hB1 : Hid (Below B w (w1.alloc (.cells #[.int .u8 0, .string ⟨#[]⟩, .int .i64 0, .int .i64 0, .int .i64 0] 52))) := Lib.hid ((hE.mono hlt.2).alloc (Nat.le_trans hlt.2 hE.size) _)
  have h1 := Lib.hid (RdS.push (a := itBlk w1.heap.size 52 #[.int .u8 0, .string ⟨#[]⟩, .int .i64 0, .int .i64 0, .int .i64 0]) (hh.out.below hE) (World.grownBy_alloc w1 (.cells #[.int .u8 0, .string ⟨#[]⟩, .int .i64 0, .int .i64 0, .int .i64 0] 52) none) (Blk.new w1 52 #[.int .u8 0, .string ⟨#[]⟩, .int .i64 0, .int .i64 0, .int .i64 0]) (fun k hk => by
    injection hk with hk
    omega))
  have kn := Lib.hid (Blk.new w1 52 #[.int .u8 0, .string ⟨#[]⟩, .int .i64 0, .int .i64 0, .int .i64 0])
  replace hE := Lib.hid hE
  clear hh
  go_upto_region 4 with fail
  generalize hW : w1.alloc (.cells #[.int .u8 0, .string ⟨#[]⟩, .int .i64 0, .int .i64 0, .int .i64 0] 52) = w2 at hB1 h1 kn ⊢
  generalize hg : w1.heap.size = gn at kn h1 ⊢
  have hgn : gn < w2.heap.size := kn.out.lt
  have hBw : B ≤ w2.heap.size := h1.out.lt.2
  have hBg : B ≤ gn := by rw [← hg]; exact Nat.le_trans hlt.2 hE.out.size
  clear hW hg hE w1
  by_cases ha : st.tx = [40]
  case pos =>
    replace h1 := Lib.hid h1.out.pop
    have i1' : tk.toList = [40] := i1.2 ha
    have hT := tx_T (st := st) (by rw [ha]; simp)
    have hr2 := hr.out
    unfold atomP at hr2
    rw [if_pos ha] at hr2
    obtain ⟨a5, f5⟩ := h1.out.open_
    clear i1 i2 i3 ha
    rcases inner with _ | f
    case none =>
      have ho : o = 64 := hin.out
      have hrr : r = .no pl0 114 := by rw [hpl0.out]; exact (Option.some.inj hr2).symm
      subst hrr ho
      have cG := Lib.hid (giveUp_any B pl0 114 w2 h1.out.lt.2)
      clear hr2 hr cU cNm hkey hin kn hgn
      go_wp2_with fail
      refine cG.out.mono ?_
      rintro en w3 hqq
      obtain ⟨q, rfl, h9⟩ := PanF.pre hqq hB1.out
      exact ⟨rfl, q, rfl, h9⟩
    case some =>
      obtain ⟨ho, hp⟩ : o < 64 ∧ PartC 25 s last wrong B p gm (o + 1) f := hin.out
      have hoI : ((o : Int) == 64) = false := by rw [beq_eq_false_iff_ne]; omega
      have hw1 : IntKind.i64.wrap ((o : Int) + 1) = (o : Int) + 1 := by rw [IntKind.wrap_i64]; omega
      have eo : ((o + 1 : Nat) : Int) = (o : Int) + 1 := by omega
      obtain ⟨h3, hB3⟩ := h1.out.setOpen (o + 1)
      rw [eo] at h3 hB3
      replace eo := Lib.hid eo
      have cO := onS h3 hT
      replace h3 := Lib.hid h3
      replace hB3 := Lib.hid (hB1.out.trans hB3)
      replace cO := Lib.hid cO
      have hpH := Lib.hid hp
      have hrH := Lib.hid hr2
      have hTH := Lib.hid hT
      clear hr2 hr cU cNm hkey hin kn hgn hp hT h1 hB1
      go_upto_region 8 with fail
      go_wp2_with fail
      refine cO.out.mono ?_
      rintro en w4 ⟨rfl, h4, hB4⟩
      replace h4 := Lib.hid h4
      replace hB4 := Lib.hid (hB3.out.trans hB4)
      clear cO h3 hB3 a5 f5 hw1 hoI
      obtain ⟨r1, hr1⟩ : ∃ r1, f st.on = some r1 := by
        rcases hf : f st.on with _ | r1
        · have := hrH.out
          simp only [hf] at this
          cases this
        · exact ⟨r1, rfl⟩
      have cS := Lib.hid (hpH.out X st.on w4 r1 h4.out hr1)
      have hrr := hrH.out
      simp only [hr1] at hrr
      replace hrr := Lib.hid hrr
      replace hr1 := Lib.hid hr1
      clear hrH
      go_wp2_with fail
      refine cS.out.mono ?_
      clear cS
      rcases r1 with ⟨v, st1⟩ | ⟨x, y⟩
      case no =>
        have hq0 : r = .no x y := (Option.some.inj hrr.out).symm
        subst hq0
        rintro en w5 hqq
        obtain ⟨q, rfl, h9⟩ := PanF.pre hqq hB4.out
        exact ⟨rfl, q, rfl, h9⟩
      case ok =>
        rintro en w5 ⟨rfl, h5, hB5, hv5, hN5⟩
        have cT := takeS [41] (by unfold Byt; simp) (by simp) h5
        have e41 : mkS [41] = (⟨#[41]⟩ : ByteArray) := rfl
        rw [e41] at cT
        replace cT := Lib.hid cT
        replace hB5 := Lib.hid (hB4.out.trans hB5)
        replace hv5 := Lib.hid hv5
        replace hN5 := Lib.hid hN5
        clear h5 e41 hB4 h4
        obtain ⟨r2, hr2⟩ : ∃ r2, r2 = takeP last wrong [41] st1 := ⟨_, rfl⟩
        rw [← hr2] at cT
        have hrr2 := hrr.out
        simp only [← hr2] at hrr2
        replace hrr := Lib.hid hrr2
        clear hrr2
        go_wp2_with fail
        refine cT.out.mono ?_
        clear cT
        rcases r2 with ⟨u, st2⟩ | ⟨x, y⟩
        case no =>
          have hq0 : r = .no x y := (Option.some.inj hrr.out).symm
          subst hq0
          rintro en w6 hqq
          obtain ⟨q, rfl, h9⟩ := PanF.pre hqq hB5.out
          exact ⟨rfl, q, rfl, h9⟩
        case ok =>
          rintro en w6 ⟨rfl, h6, hB6⟩
          have hq0 : r = .ok v st2 := (Option.some.inj hrr.out).symm
          have hst2 : st2 = st1.on := (takeP_ok hr2.symm).2
          obtain ⟨a5, f5⟩ := h6.open_
          rw [eo.out] at a5
          have hw1 : IntKind.i64.wrap ((o : Int) + 1 - 1) = (o : Int) := by rw [IntKind.wrap_i64]; omega
          have hw2 : IntKind.i64.wrap (o : Int) = (o : Int) := by rw [IntKind.wrap_i64]; omega
          obtain ⟨h7, hB7⟩ := h6.setOpen o
          replace h7 := Lib.hid h7
          replace hB7 := Lib.hid (hB5.out.trans (hB6.trans hB7))
          replace hst2 := Lib.hid hst2
          replace hr2 := Lib.hid hr2
          subst hq0
          clear h6 hB6 hB5 hrr
          go_wp2_with fail
          go_ret
          refine ⟨rfl, h7.out, hB7.out, ?_, ?_⟩
          · rw [hst2.out]; exact hv5.out
          · rw [hst2.out]; exact hN5.out
  case neg =>
    have i1' : ¬ tk.toList = [40] := fun e => ha (i1.1 e)
    have k1' : (tk.toList == [40]) = false := beq_eq_false_iff_ne.2 i1'
    have hr2 := hr.out
    unfold atomP at hr2
    rw [if_neg ha] at hr2
    by_cases hb : st.tx = [105]
    case pos =>
      rw [if_pos hb] at hr2
      have i2' : tk.toList = [105] := i2.2 hb
      have hT := tx_T (st := st) (by rw [hb]; simp)
      clear i1 i2 i3 ha hb
      have g0 : w2.cell? ⟨gn, 0, none⟩ = some (.int .u8 0) := kn.out.cell 0
      have gf0 := kn.out.frozen 0
      have g1 : w2.cell? ⟨gn, 1, none⟩ = some (.string ⟨#[]⟩) := kn.out.cell 1
      have gf1 := kn.out.frozen 1
      have g2 : w2.cell? ⟨gn, 2, none⟩ = some (.int .i64 0) := kn.out.cell 2
      have gf2 := kn.out.frozen 2
      have g3 : w2.cell? ⟨gn, 3, none⟩ = some (.int .i64 0) := kn.out.cell 3
      have gf3 := kn.out.frozen 3
      have g4 : w2.cell? ⟨gn, 4, none⟩ = some (.int .i64 0) := kn.out.cell 4
      have gf4 := kn.out.frozen 4
      have hS3 := Lib.hid (h1.out.turn (a' := itBlk gn 52 #[.int .u8 2, .string ⟨#[]⟩, .int .i64 0, .int .i64 0, .int .i64 0]) (gb_set (gb_refl w2 (some gn)) 0 (.int .u8 2)) (by have hb := (kn.out.set_ 0 (.int .u8 2)); exact hb) (fun k hk => .inl hk))
      have hB3 : Hid (Below B w (w2.setCell ⟨gn, 0, none⟩ (.int .u8 2))) := Lib.hid (hB1.out.trans ⟨rfl, rfl, rfl, (gb_set (gb_refl w2 (some gn)) 0 (.int .u8 2)).size, fun k hk => (gb_set (gb_refl w2 (some gn)) 0 (.int .u8 2)).block k (Nat.lt_of_lt_of_le hk hBw) (fun e => by injection e with e; omega)⟩)
      clear cU hkey hin
      clear cNm
      go_upto_region 23 with fail
      generalize hW : (w2.setCell ⟨gn, 0, none⟩ (.int .u8 2)) = w3 at hS3 hB3 ⊢
      clear hW g0 g1 g2 g3 g4 gf0 gf1 gf2 gf3 gf4 kn h1 hB1
      have kk : Blk w3 gn 52 #[.int .u8 2, .string ⟨#[]⟩, .int .i64 0, .int .i64 0, .int .i64 0] := hS3.out.last_
      have g0 : w3.cell? ⟨gn, 0, none⟩ = some (.int .u8 2) := kk.cell 0
      have g1 : w3.cell? ⟨gn, 1, none⟩ = some (.string ⟨#[]⟩) := kk.cell 1
      have g2 : w3.cell? ⟨gn, 2, none⟩ = some (.int .i64 0) := kk.cell 2
      have g3 : w3.cell? ⟨gn, 3, none⟩ = some (.int .i64 0) := kk.cell 3
      have g4 : w3.cell? ⟨gn, 4, none⟩ = some (.int .i64 0) := kk.cell 4
      have hA := hS3.out.pop
      obtain ⟨r1, hr1⟩ : ∃ r1, r1 = addP ⟨2, [], 0, 0, 0⟩ 1 pl0 st := ⟨_, rfl⟩
      have hrr : r = onR r1 := by
        have e := Option.some.inj hr2
        rw [← e, addOn_eq, ← hpl0.out, ← hr1]
      have hT2 : ∀ v st1, r1 = .ok v st1 → st1.T ≠ [] ∧ st1.N.length = st1.on.N.length := fun v st1 e => by
        rw [hr1] at e
        rw [(addP_ok e).2]
        exact ⟨hT, rfl⟩
      have cA0 := add_rd ⟨2, [], 0, 0, 0⟩ 1 pl0 hA (by omega)
      rw [← hr1] at cA0
      have cA : Hid (Calls Tryz.prog 76 #[.pointer (some ⟨p, 0, none⟩), .agg #[.int .u8 2, .string ⟨#[]⟩, .int .i64 0, .int .i64 0, .int .i64 0], .int .i64 1, .int .i64 (pl0 : Int)] w3 (PostN s last wrong B p gm X o st w3 r1)) := Lib.hid (by
        skip
        exact cA0)
      replace hr1 := Lib.hid hr1
      replace hT2 := Lib.hid hT2
      replace hrr := Lib.hid hrr
      clear hr2 hr cA0 hA kk hT hS3
      go_wp2_with fail
      refine cA.out.mono ?_
      clear cA
      rcases r1 with ⟨v, st1⟩ | ⟨x, y⟩
      case no =>
        have hq0 : r = .no x y := hrr.out
        subst hq0
        rintro en w5 hqq
        obtain ⟨q, rfl, h9⟩ := PanF.pre hqq hB3.out
        exact ⟨rfl, q, rfl, h9⟩
      case ok =>
        rintro en w5 ⟨rfl, h5, hB5, hv5, hN5⟩
        have hq0 : r = .ok v st1.on := hrr.out
        subst hq0
        have cO := Lib.hid (onS h5 (hT2.out v st1 rfl).1)
        replace hB5 := Lib.hid (hB3.out.trans hB5)
        replace hv5 := Lib.hid hv5
        replace hN5 := Lib.hid hN5
        clear h5 hB3 g0 g1 g2 g3 g4 hrr
        go_wp2_with fail
        refine cO.out.mono ?_
        rintro en w6 ⟨rfl, h6, hB6⟩
        replace h6 := Lib.hid h6
        replace hB6 := Lib.hid (hB5.out.trans hB6)
        clear cO hB5
        go_wp2_with fail
        go_ret
        refine ⟨rfl, h6.out, hB6.out, ?_, ?_⟩
        · rw [← (hT2.out v st1 rfl).2]; exact hv5.out
        · rw [← (hT2.out v st1 rfl).2]; exact hN5.out
    case neg =>
      rw [if_neg hb] at hr2
      have i2' : ¬ tk.toList = [105] := fun e => hb (i2.1 e)
      have k2' : (tk.toList == [105]) = false := beq_eq_false_iff_ne.2 i2'
      by_cases hc : st.tx = [122]
      case pos =>
        rw [if_pos hc] at hr2
        have i3' : tk.toList = [122] := i3.2 hc
        have hT := tx_T (st := st) (by rw [hc]; simp)
        clear i1 i2 i3 ha hb hc
        have g0 : w2.cell? ⟨gn, 0, none⟩ = some (.int .u8 0) := kn.out.cell 0
        have gf0 := kn.out.frozen 0
        have g1 : w2.cell? ⟨gn, 1, none⟩ = some (.string ⟨#[]⟩) := kn.out.cell 1
        have gf1 := kn.out.frozen 1
        have g2 : w2.cell? ⟨gn, 2, none⟩ = some (.int .i64 0) := kn.out.cell 2
        have gf2 := kn.out.frozen 2
        have g3 : w2.cell? ⟨gn, 3, none⟩ = some (.int .i64 0) := kn.out.cell 3
        have gf3 := kn.out.frozen 3
        have g4 : w2.cell? ⟨gn, 4, none⟩ = some (.int .i64 0) := kn.out.cell 4
        have gf4 := kn.out.frozen 4
        have hS3 := Lib.hid (h1.out.turn (a' := itBlk gn 52 #[.int .u8 3, .string ⟨#[]⟩, .int .i64 0, .int .i64 0, .int .i64 0]) (gb_set (gb_refl w2 (some gn)) 0 (.int .u8 3)) (by have hb := (kn.out.set_ 0 (.int .u8 3)); exact hb) (fun k hk => .inl hk))
        have hB3 : Hid (Below B w (w2.setCell ⟨gn, 0, none⟩ (.int .u8 3))) := Lib.hid (hB1.out.trans ⟨rfl, rfl, rfl, (gb_set (gb_refl w2 (some gn)) 0 (.int .u8 3)).size, fun k hk => (gb_set (gb_refl w2 (some gn)) 0 (.int .u8 3)).block k (Nat.lt_of_lt_of_le hk hBw) (fun e => by injection e with e; omega)⟩)
        clear cU hkey hin
        clear cNm
        go_upto_region 23 with fail
        generalize hW : (w2.setCell ⟨gn, 0, none⟩ (.int .u8 3)) = w3 at hS3 hB3 ⊢
        clear hW g0 g1 g2 g3 g4 gf0 gf1 gf2 gf3 gf4 kn h1 hB1
        have kk : Blk w3 gn 52 #[.int .u8 3, .string ⟨#[]⟩, .int .i64 0, .int .i64 0, .int .i64 0] := hS3.out.last_
        have g0 : w3.cell? ⟨gn, 0, none⟩ = some (.int .u8 3) := kk.cell 0
        have g1 : w3.cell? ⟨gn, 1, none⟩ = some (.string ⟨#[]⟩) := kk.cell 1
        have g2 : w3.cell? ⟨gn, 2, none⟩ = some (.int .i64 0) := kk.cell 2
        have g3 : w3.cell? ⟨gn, 3, none⟩ = some (.int .i64 0) := kk.cell 3
        have g4 : w3.cell? ⟨gn, 4, none⟩ = some (.int .i64 0) := kk.cell 4
        have hA := hS3.out.pop
        obtain ⟨r1, hr1⟩ : ∃ r1, r1 = addP ⟨3, [], 0, 0, 0⟩ 1 pl0 st := ⟨_, rfl⟩
        have hrr : r = onR r1 := by
          have e := Option.some.inj hr2
          rw [← e, addOn_eq, ← hpl0.out, ← hr1]
        have hT2 : ∀ v st1, r1 = .ok v st1 → st1.T ≠ [] ∧ st1.N.length = st1.on.N.length := fun v st1 e => by
          rw [hr1] at e
          rw [(addP_ok e).2]
          exact ⟨hT, rfl⟩
        have cA0 := add_rd ⟨3, [], 0, 0, 0⟩ 1 pl0 hA (by omega)
        rw [← hr1] at cA0
        have cA : Hid (Calls Tryz.prog 76 #[.pointer (some ⟨p, 0, none⟩), .agg #[.int .u8 3, .string ⟨#[]⟩, .int .i64 0, .int .i64 0, .int .i64 0], .int .i64 1, .int .i64 (pl0 : Int)] w3 (PostN s last wrong B p gm X o st w3 r1)) := Lib.hid (by
          skip
          exact cA0)
        replace hr1 := Lib.hid hr1
        replace hT2 := Lib.hid hT2
        replace hrr := Lib.hid hrr
        clear hr2 hr cA0 hA kk hT hS3
        go_wp2_with fail
        refine cA.out.mono ?_
        clear cA
        rcases r1 with ⟨v, st1⟩ | ⟨x, y⟩
        case no =>
          have hq0 : r = .no x y := hrr.out
          subst hq0
          rintro en w5 hqq
          obtain ⟨q, rfl, h9⟩ := PanF.pre hqq hB3.out
          exact ⟨rfl, q, rfl, h9⟩
        case ok =>
          rintro en w5 ⟨rfl, h5, hB5, hv5, hN5⟩
          have hq0 : r = .ok v st1.on := hrr.out
          subst hq0
          have cO := Lib.hid (onS h5 (hT2.out v st1 rfl).1)
          replace hB5 := Lib.hid (hB3.out.trans hB5)
          replace hv5 := Lib.hid hv5
          replace hN5 := Lib.hid hN5
          clear h5 hB3 g0 g1 g2 g3 g4 hrr
          go_wp2_with fail
          refine cO.out.mono ?_
          rintro en w6 ⟨rfl, h6, hB6⟩
          replace h6 := Lib.hid h6
          replace hB6 := Lib.hid (hB5.out.trans hB6)
          clear cO hB5
          go_wp2_with fail
          go_ret
          refine ⟨rfl, h6.out, hB6.out, ?_, ?_⟩
          · rw [← (hT2.out v st1 rfl).2]; exact hv5.out
          · rw [← (hT2.out v st1 rfl).2]; exact hN5.out
      case neg =>
        rw [if_neg hc] at hr2
        have i3' : ¬ tk.toList = [122] := fun e => hc (i3.1 e)
        have k3' : (tk.toList == [122]) = false := beq_eq_false_iff_ne.2 i3'
        by_cases hd : isName st.tx = true
        case pos =>
          rw [if_pos hd] at hr2
          have hT := tx_T (st := st) (fun e => by rw [e] at hd; cases hd)
          rw [hd] at cNm
          clear i1 i2 i3 ha hb hc hd
          obtain ⟨D, nD, hM, hND, a10⟩ := h1.out.names
          have hat := hND.get st.tx hbyt.out
          rw [← htk.out] at hat
          replace hM := Lib.hid hM
          clear hND
          by_cases hm : st.tx ∈ st.names
          case neg =>
            rw [if_neg hm] at hr2
            rw [decide_eq_false hm] at hat
            have hrr : r = .no pl0 112 := by rw [hpl0.out]; exact (Option.some.inj hr2).symm
            subst hrr
            have cG := Lib.hid (giveUp_any B pl0 112 w2 hBw)
            replace hat := Lib.hid hat
            clear hr2 hr cU hin kn hgn hm hT
            go_wp2_with fail
            refine (cNm.out _).mono ?_
            rintro en w1 ⟨rfl, hw⟩
            obtain rfl := hw.symm
            clear hw cNm
            go_wp2_with (at_lookup; refine wpList_look_bool _ rfl _ _ 39 rfl 9 4 lawStr9 Tryz.underlying39 Tryz.underlying4 (zeroBo _) gm nD D rfl hM.out _ _ rfl hkey.out false hat.out ?_)
            refine cG.out.mono ?_
            rintro en w3 hqq
            obtain ⟨q, rfl, h9⟩ := PanF.pre hqq hB1.out
            exact ⟨rfl, q, rfl, h9⟩
          case pos =>
            rw [if_pos hm] at hr2
            rw [decide_eq_true hm] at hat
            replace hat := Lib.hid hat
            clear hm
            have g0 : w2.cell? ⟨gn, 0, none⟩ = some (.int .u8 0) := kn.out.cell 0
            have gf0 := kn.out.frozen 0
            have g1 : w2.cell? ⟨gn, 1, none⟩ = some (.string ⟨#[]⟩) := kn.out.cell 1
            have gf1 := kn.out.frozen 1
            have g2 : w2.cell? ⟨gn, 2, none⟩ = some (.int .i64 0) := kn.out.cell 2
            have gf2 := kn.out.frozen 2
            have g3 : w2.cell? ⟨gn, 3, none⟩ = some (.int .i64 0) := kn.out.cell 3
            have gf3 := kn.out.frozen 3
            have g4 : w2.cell? ⟨gn, 4, none⟩ = some (.int .i64 0) := kn.out.cell 4
            have gf4 := kn.out.frozen 4
            have hS3 := Lib.hid (h1.out.turn (a' := itBlk gn 52 #[.int .u8 4, .string tk, .int .i64 0, .int .i64 0, .int .i64 0]) (gb_set (gb_set (gb_set (gb_set (gb_set (gb_refl w2 (some gn)) 0 (.int .u8 4)) 1 (.string tk)) 2 (.int .i64 0)) 3 (.int .i64 0)) 4 (.int .i64 0)) (by have hb := (((((kn.out.set_ 0 (.int .u8 4)).set_ 1 (.string tk)).set_ 2 (.int .i64 0)).set_ 3 (.int .i64 0)).set_ 4 (.int .i64 0)); exact hb) (fun k hk => .inl hk))
            have hB3 : Hid (Below B w (((((w2.setCell ⟨gn, 0, none⟩ (.int .u8 4)).setCell ⟨gn, 1, none⟩ (.string tk)).setCell ⟨gn, 2, none⟩ (.int .i64 0)).setCell ⟨gn, 3, none⟩ (.int .i64 0)).setCell ⟨gn, 4, none⟩ (.int .i64 0))) := Lib.hid (hB1.out.trans ⟨rfl, rfl, rfl, (gb_set (gb_set (gb_set (gb_set (gb_set (gb_refl w2 (some gn)) 0 (.int .u8 4)) 1 (.string tk)) 2 (.int .i64 0)) 3 (.int .i64 0)) 4 (.int .i64 0)).size, fun k hk => (gb_set (gb_set (gb_set (gb_set (gb_set (gb_refl w2 (some gn)) 0 (.int .u8 4)) 1 (.string tk)) 2 (.int .i64 0)) 3 (.int .i64 0)) 4 (.int .i64 0)).block k (Nat.lt_of_lt_of_le hk hBw) (fun e => by injection e with e; omega)⟩)
            clear cU hin
            go_wp2_with fail
            refine (cNm.out _).mono ?_
            rintro en w1 ⟨rfl, hw⟩
            obtain rfl := hw.symm
            clear hw cNm
            go_upto_region 23 with (at_lookup; refine wpList_look_bool _ rfl _ _ 39 rfl 9 4 lawStr9 Tryz.underlying39 Tryz.underlying4 (zeroBo _) gm nD D rfl hM.out _ _ rfl hkey.out true hat.out ?_)
            clear hM hat hkey a10
            generalize hW : (((((w2.setCell ⟨gn, 0, none⟩ (.int .u8 4)).setCell ⟨gn, 1, none⟩ (.string tk)).setCell ⟨gn, 2, none⟩ (.int .i64 0)).setCell ⟨gn, 3, none⟩ (.int .i64 0)).setCell ⟨gn, 4, none⟩ (.int .i64 0)) = w3 at hS3 hB3 ⊢
            clear hW g0 g1 g2 g3 g4 gf0 gf1 gf2 gf3 gf4 kn h1 hB1
            have kk : Blk w3 gn 52 #[.int .u8 4, .string tk, .int .i64 0, .int .i64 0, .int .i64 0] := hS3.out.last_
            have g0 : w3.cell? ⟨gn, 0, none⟩ = some (.int .u8 4) := kk.cell 0
            have g1 : w3.cell? ⟨gn, 1, none⟩ = some (.string tk) := kk.cell 1
            have g2 : w3.cell? ⟨gn, 2, none⟩ = some (.int .i64 0) := kk.cell 2
            have g3 : w3.cell? ⟨gn, 3, none⟩ = some (.int .i64 0) := kk.cell 3
            have g4 : w3.cell? ⟨gn, 4, none⟩ = some (.int .i64 0) := kk.cell 4
            have hA := hS3.out.pop
            obtain ⟨r1, hr1⟩ : ∃ r1, r1 = addP ⟨4, st.tx, 0, 0, 0⟩ 1 pl0 st := ⟨_, rfl⟩
            have hrr : r = onR r1 := by
              have e := Option.some.inj hr2
              rw [← e, addOn_eq, ← hpl0.out, ← hr1]
            have hT2 : ∀ v st1, r1 = .ok v st1 → st1.T ≠ [] ∧ st1.N.length = st1.on.N.length := fun v st1 e => by
              rw [hr1] at e
              rw [(addP_ok e).2]
              exact ⟨hT, rfl⟩
            have cA0 := add_rd ⟨4, st.tx, 0, 0, 0⟩ 1 pl0 hA (by omega)
            rw [← hr1] at cA0
            have cA : Hid (Calls Tryz.prog 76 #[.pointer (some ⟨p, 0, none⟩), .agg #[.int .u8 4, .string tk, .int .i64 0, .int .i64 0, .int .i64 0], .int .i64 1, .int .i64 (pl0 : Int)] w3 (PostN s last wrong B p gm X o st w3 r1)) := Lib.hid (by
              rw [htk.out]
              exact cA0)
            replace hr1 := Lib.hid hr1
            replace hT2 := Lib.hid hT2
            replace hrr := Lib.hid hrr
            clear hr2 hr cA0 hA kk hT hS3
            go_wp2_with fail
            refine cA.out.mono ?_
            clear cA
            rcases r1 with ⟨v, st1⟩ | ⟨x, y⟩
            case no =>
              have hq0 : r = .no x y := hrr.out
              subst hq0
              rintro en w5 hqq
              obtain ⟨q, rfl, h9⟩ := PanF.pre hqq hB3.out
              exact ⟨rfl, q, rfl, h9⟩
            case ok =>
              rintro en w5 ⟨rfl, h5, hB5, hv5, hN5⟩
              have hq0 : r = .ok v st1.on := hrr.out
              subst hq0
              have cO := Lib.hid (onS h5 (hT2.out v st1 rfl).1)
              replace hB5 := Lib.hid (hB3.out.trans hB5)
              replace hv5 := Lib.hid hv5
              replace hN5 := Lib.hid hN5
              clear h5 hB3 g0 g1 g2 g3 g4 hrr
              go_wp2_with fail
              refine cO.out.mono ?_
              rintro en w6 ⟨rfl, h6, hB6⟩
              replace h6 := Lib.hid h6
              replace hB6 := Lib.hid (hB5.out.trans hB6)
              clear cO hB5
              go_wp2_with fail
              go_ret
              refine ⟨rfl, h6.out, hB6.out, ?_, ?_⟩
              · rw [← (hT2.out v st1 rfl).2]; exact hv5.out
              · rw [← (hT2.out v st1 rfl).2]; exact hN5.out
        case neg =>
          have hd2 : isName st.tx = false := by simpa using hd
          rw [if_neg hd] at hr2
          rw [hd2] at cNm
          clear hkey i1 i2 i3
          rcases hx : st.tx with _ | ⟨b, l⟩
          case nil =>
            have htk2 : tk = ⟨#[]⟩ := by rw [htk.out, hx]; rfl
            have hnn : ¬ isNum st.tx = true := by rw [hx]; decide
            rw [if_neg hnn] at hr2
            clear hd hd2 ha hb hc hnn
            rcases hu : (unwP last wrong st : PR Nat) with ⟨v, st1⟩ | ⟨x, y⟩
            case ok => exact (unwP_ok hu).elim
            case no =>
              have hrr : r = .no x y := by rw [← hu]; exact (Option.some.inj hr2).symm
              subst hrr
              have cUU := Lib.hid (cU.out w2 x y h1.out.pop hu)
              clear hr2 hr cU hin kn hgn hu
              subst htk2
              clear i1' i2' i3'
              go_wp2_with fail
              refine (cNm.out _).mono ?_
              rintro en w1 ⟨rfl, hw⟩
              obtain rfl := hw.symm
              clear hw cNm
              go_wp2_with fail
              refine cUU.out.mono ?_
              rintro en w3 hqq
              obtain ⟨q, rfl, h9⟩ := PanF.pre hqq hB1.out
              exact ⟨rfl, q, rfl, h9⟩
          case cons =>
            have hT := tx_T (st := st) (by rw [hx]; simp)
            have hsz : 0 < tk.size := by rw [htk.out, mkS_size, hx]; simp
            have hb9 : b < 256 := hbyt.out b (by rw [hx]; exact List.mem_cons_self ..)
            have hcx : (((tk[0]'hsz).toNat : Nat) : Int) = (b : Int) := by
              have q1 := sl_get tk 0 hsz
              have q3 : sl tk = b :: l := by rw [htk.out, hx]; exact sl_mk _ (by rw [← hx]; exact hbyt.out)
              rw [q3] at q1
              have q2 : b = tk[0].toNat := Option.some.inj q1
              rw [← q2]
            have hszI : (0 : Int) < (tk.size : Int) := by omega
            have e0 : ¬ tk.toList = [] := fun e => by
              have q1 : tk.data.toList = [] := by rw [← ByteArray.toList_eq]; exact e
              have q2 : tk.size = 0 := by
                have := congrArg List.length q1
                simpa using this
              omega
            have e00 : tk.toList.isEmpty = false := by simpa using e0
            have hnum : isNum st.tx = digB b := by rw [hx]; rfl
            have cD := fun W => digit_any b W
            rw [hnum] at hr2
            replace hx := Lib.hid hx
            clear hd hd2 ha hb hc hnum
            by_cases hdb : digB b = true
            case neg =>
              rw [if_neg hdb] at hr2
              have hdb2 : digB b = false := by simpa using hdb
              rw [hdb2] at cD
              replace cD := Lib.hid cD
              clear hdb hdb2
              rcases hu : (unwP last wrong st : PR Nat) with ⟨v, st1⟩ | ⟨x, y⟩
              case ok => exact (unwP_ok hu).elim
              case no =>
                have hrr : r = .no x y := by rw [← hu]; exact (Option.some.inj hr2).symm
                subst hrr
                have cUU := Lib.hid (cU.out w2 x y h1.out.pop hu)
                clear hr2 hr cU hin kn hgn hu
                go_wp2_with fail
                refine (cNm.out _).mono ?_
                rintro en w1 ⟨rfl, hw⟩
                obtain rfl := hw.symm
                clear hw cNm
                go_wp2_with fail
                refine (cD.out _).mono ?_
                rintro en w1 ⟨rfl, hw⟩
                obtain rfl := hw.symm
                clear hw cD
                go_wp2_with fail
                refine cUU.out.mono ?_
                rintro en w3 hqq
                obtain ⟨q, rfl, h9⟩ := PanF.pre hqq hB1.out
                exact ⟨rfl, q, rfl, h9⟩
            case pos =>
              rw [if_pos hdb] at hr2
              rw [hdb] at cD
              replace cD := Lib.hid cD
              clear hdb
              have g0 : w2.cell? ⟨gn, 0, none⟩ = some (.int .u8 0) := kn.out.cell 0
              have gf0 := kn.out.frozen 0
              have g1 : w2.cell? ⟨gn, 1, none⟩ = some (.string ⟨#[]⟩) := kn.out.cell 1
              have gf1 := kn.out.frozen 1
              have g2 : w2.cell? ⟨gn, 2, none⟩ = some (.int .i64 0) := kn.out.cell 2
              have gf2 := kn.out.frozen 2
              have g3 : w2.cell? ⟨gn, 3, none⟩ = some (.int .i64 0) := kn.out.cell 3
              have gf3 := kn.out.frozen 3
              have g4 : w2.cell? ⟨gn, 4, none⟩ = some (.int .i64 0) := kn.out.cell 4
              have gf4 := kn.out.frozen 4
              have hS3 := Lib.hid (h1.out.turn (a' := itBlk gn 52 #[.int .u8 1, .string tk, .int .i64 0, .int .i64 0, .int .i64 0]) (gb_set (gb_set (gb_set (gb_set (gb_set (gb_refl w2 (some gn)) 0 (.int .u8 1)) 1 (.string tk)) 2 (.int .i64 0)) 3 (.int .i64 0)) 4 (.int .i64 0)) (by have hb := (((((kn.out.set_ 0 (.int .u8 1)).set_ 1 (.string tk)).set_ 2 (.int .i64 0)).set_ 3 (.int .i64 0)).set_ 4 (.int .i64 0)); exact hb) (fun k hk => .inl hk))
              have hB3 : Hid (Below B w (((((w2.setCell ⟨gn, 0, none⟩ (.int .u8 1)).setCell ⟨gn, 1, none⟩ (.string tk)).setCell ⟨gn, 2, none⟩ (.int .i64 0)).setCell ⟨gn, 3, none⟩ (.int .i64 0)).setCell ⟨gn, 4, none⟩ (.int .i64 0))) := Lib.hid (hB1.out.trans ⟨rfl, rfl, rfl, (gb_set (gb_set (gb_set (gb_set (gb_set (gb_refl w2 (some gn)) 0 (.int .u8 1)) 1 (.string tk)) 2 (.int .i64 0)) 3 (.int .i64 0)) 4 (.int .i64 0)).size, fun k hk => (gb_set (gb_set (gb_set (gb_set (gb_set (gb_refl w2 (some gn)) 0 (.int .u8 1)) 1 (.string tk)) 2 (.int .i64 0)) 3 (.int .i64 0)) 4 (.int .i64 0)).block k (Nat.lt_of_lt_of_le hk hBw) (fun e => by injection e with e; omega)⟩)
              clear cU hin
              go_wp2_with fail
              refine (cNm.out _).mono ?_
              rintro en w1 ⟨rfl, hw⟩
              obtain rfl := hw.symm
              clear hw cNm
              go_wp2_with fail
              refine (cD.out _).mono ?_
              rintro en w1 ⟨rfl, hw⟩
              obtain rfl := hw.symm
              clear hw cD
              go_upto_region 23 with fail
              generalize hW : (((((w2.setCell ⟨gn, 0, none⟩ (.int .u8 1)).setCell ⟨gn, 1, none⟩ (.string tk)).setCell ⟨gn, 2, none⟩ (.int .i64 0)).setCell ⟨gn, 3, none⟩ (.int .i64 0)).setCell ⟨gn, 4, none⟩ (.int .i64 0)) = w3 at hS3 hB3 ⊢
              clear hW g0 g1 g2 g3 g4 gf0 gf1 gf2 gf3 gf4 kn h1 hB1
              have kk : Blk w3 gn 52 #[.int .u8 1, .string tk, .int .i64 0, .int .i64 0, .int .i64 0] := hS3.out.last_
              have g0 : w3.cell? ⟨gn, 0, none⟩ = some (.int .u8 1) := kk.cell 0
              have g1 : w3.cell? ⟨gn, 1, none⟩ = some (.string tk) := kk.cell 1
              have g2 : w3.cell? ⟨gn, 2, none⟩ = some (.int .i64 0) := kk.cell 2
              have g3 : w3.cell? ⟨gn, 3, none⟩ = some (.int .i64 0) := kk.cell 3
              have g4 : w3.cell? ⟨gn, 4, none⟩ = some (.int .i64 0) := kk.cell 4
              have hA := hS3.out.pop
              obtain ⟨r1, hr1⟩ : ∃ r1, r1 = addP ⟨1, st.tx, 0, 0, 0⟩ 1 pl0 st := ⟨_, rfl⟩
              have hrr : r = onR r1 := by
                have e := Option.some.inj hr2
                rw [← e, addOn_eq, ← hpl0.out, ← hr1]
              have hT2 : ∀ v st1, r1 = .ok v st1 → st1.T ≠ [] ∧ st1.N.length = st1.on.N.length := fun v st1 e => by
                rw [hr1] at e
                rw [(addP_ok e).2]
                exact ⟨hT, rfl⟩
              have cA0 := add_rd ⟨1, st.tx, 0, 0, 0⟩ 1 pl0 hA (by omega)
              rw [← hr1] at cA0
              have cA : Hid (Calls Tryz.prog 76 #[.pointer (some ⟨p, 0, none⟩), .agg #[.int .u8 1, .string tk, .int .i64 0, .int .i64 0, .int .i64 0], .int .i64 1, .int .i64 (pl0 : Int)] w3 (PostN s last wrong B p gm X o st w3 r1)) := Lib.hid (by
                rw [htk.out]
                exact cA0)
              replace hr1 := Lib.hid hr1
              replace hT2 := Lib.hid hT2
              replace hrr := Lib.hid hrr
              clear hr2 hr cA0 hA kk hT hS3
              go_wp2_with fail
              refine cA.out.mono ?_
              clear cA
              rcases r1 with ⟨v, st1⟩ | ⟨x, y⟩
              case no =>
                have hq0 : r = .no x y := hrr.out
                subst hq0
                rintro en w5 hqq
                obtain ⟨q, rfl, h9⟩ := PanF.pre hqq hB3.out
                exact ⟨rfl, q, rfl, h9⟩
              case ok =>
                rintro en w5 ⟨rfl, h5, hB5, hv5, hN5⟩
                have hq0 : r = .ok v st1.on := hrr.out
                subst hq0
                have cO := Lib.hid (onS h5 (hT2.out v st1 rfl).1)
                replace hB5 := Lib.hid (hB3.out.trans hB5)
                replace hv5 := Lib.hid hv5
                replace hN5 := Lib.hid hN5
                clear h5 hB3 g0 g1 g2 g3 g4 hrr
                go_wp2_with fail
                refine cO.out.mono ?_
                rintro en w6 ⟨rfl, h6, hB6⟩
                replace h6 := Lib.hid h6
                replace hB6 := Lib.hid (hB5.out.trans hB6)
                clear cO hB5
                go_wp2_with fail
                go_ret
                refine ⟨rfl, h6.out, hB6.out, ?_, ?_⟩
                · rw [← (hT2.out v st1 rfl).2]; exact hv5.out
                · rw [← (hT2.out v st1 rfl).2]; exact hN5.out
end
end Go.Proofs.YtnaadajcehfmiaaGreatDoor
