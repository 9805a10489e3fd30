/- filigreeref11: sum whole, let. -/
import Derived.Test.YtnaadajcehfmiaaGreatDoorLvK
namespace Go.Proofs.YtnaadajcehfmiaaGreatDoor
open Go.RowKit Go.Sort Go.Maps

section
variable {T0 : List Tok} {last : Nat} {wrong : Bool} {B p i : Nat} {X : List It} {o : Int} {oN : Nat} {N : List Nod} {H : List Nat} {U : List (List Nat × Nat)} {wh cd : Nat} {st : PS} {w w' : World}
/-- How a let ends. -/
def PostL (T0 : List Tok) (last : Nat) (wrong : Bool) (B p : Nat) (X : List It) (o : Nat) (w : World) (r : PR Unit) (e : Ending) (w' : World) : Prop :=
  match r with
  | .ok _ st' => e = .returned (.tuple #[]) ∧ RvS T0 last wrong B p X o st' w' ∧ Below B w w'
  | .no a c => e = .returned (.tuple #[]) ∧ (∃ vT vN vH vL i o, Blk w' p 47 (rvC vT wrong last i o vN vH vL a c)) ∧ Below B w w' ∧ c ≠ 0
theorem vlet_one (tk : ByteArray) (a : Int) : ∀ u ∈ [Value.string tk, .int .i64 a], u.oneCell' = true := fun u hu => by
  simp only [List.mem_cons, List.not_mem_nil, or_false] at hu
  rcases hu with rfl | rfl <;> rfl
set_option maxRecDepth 100000 in
/-- atom, behind a fault -/
theorem rvatom0 (hcd : cd ≠ 0) (c9 : w.cell? ⟨p, 9, none⟩ = some (.int .i64 (cd : Int))) : Calls Tryz.prog 79 #[.pointer (some ⟨p, 0, none⟩)] w (fun e w' => e = .returned (.int .i64 0) ∧ w' = w) := by
  have hcI : ((cd : Int) == 0) = false := k_ne (b := 0) hcd
  have hcJ : ((cd : Int) != 0) = true := by rw [bne, hcI]; rfl
  clear hcd
  go_enter Tryz.func79, Tryz.ntmps79
  go_wp2_with fail
  go_ret
  exact ⟨rfl, rfl⟩
set_option maxRecDepth 100000 in
/-- power, behind a fault -/
theorem rvpower0 (hcd : cd ≠ 0) (c9 : w.cell? ⟨p, 9, none⟩ = some (.int .i64 (cd : Int))) : Calls Tryz.prog 68 #[.pointer (some ⟨p, 0, none⟩)] w (fun e w' => e = .returned (.int .i64 0) ∧ w' = w) := by
  have cS := Lib.hid (rvatom0 hcd c9)
  have hcI : ((cd : Int) == 0) = false := k_ne (b := 0) hcd
  have hcJ : ((cd : Int) != 0) = true := by rw [bne, hcI]; rfl
  clear hcd
  go_enter Tryz.func68, Tryz.ntmps68
  go_wp2_with fail
  refine cS.out.mono ?_
  rintro en wq ⟨rfl, rfl⟩
  go_wp2_with fail
  go_ret
  exact ⟨rfl, rfl⟩
set_option maxRecDepth 100000 in
/-- minus, behind a fault -/
theorem rvminus0 (hcd : cd ≠ 0) (c9 : w.cell? ⟨p, 9, none⟩ = some (.int .i64 (cd : Int))) : Calls Tryz.prog 48 #[.pointer (some ⟨p, 0, none⟩)] w (fun e w' => e = .returned (.int .i64 0) ∧ w' = w) := by
  have cS := Lib.hid (rvpower0 hcd c9)
  have hcI : ((cd : Int) == 0) = false := k_ne (b := 0) hcd
  have hcJ : ((cd : Int) != 0) = true := by rw [bne, hcI]; rfl
  clear hcd
  go_enter Tryz.func48, Tryz.ntmps48
  go_wp2_with fail
  go_loopg [3] 1 (fun kx v wr => v = .slice none 0 0 ∧ w = wr)
  case atStart => exact ⟨rfl, rfl⟩
  case round =>
    obtain ⟨rfl, rfl⟩ := hrel
    go_wp2_with fail
    refine cS.out.mono ?_
    rintro en wq ⟨rfl, rfl⟩
    have hw1 : IntKind.i64.wrap ((0 : Int) - 1) = -1 := by rw [IntKind.wrap_i64]; omega
    go_wp2_with fail
    go_loopg [4, 5] 1 (fun kx v v5 wr => v = .int .i64 0 ∧ v5 = .int .i64 (-1) ∧ wq = wr)
    case atStart => exact ⟨rfl, rfl, rfl⟩
    case round =>
      obtain ⟨rfl, rfl, rfl⟩ := hrel
      go_wp2_with fail
      go_ret
      exact ⟨rfl, rfl⟩
set_option maxRecDepth 100000 in
/-- term, behind a fault -/
theorem rvterm0 (hcd : cd ≠ 0) (c9 : w.cell? ⟨p, 9, none⟩ = some (.int .i64 (cd : Int))) : Calls Tryz.prog 33 #[.pointer (some ⟨p, 0, none⟩)] w (fun e w' => e = .returned (.int .i64 0) ∧ w' = w) := by
  have cS := Lib.hid (rvminus0 hcd c9)
  have hcI : ((cd : Int) == 0) = false := k_ne (b := 0) hcd
  have hcJ : ((cd : Int) != 0) = true := by rw [bne, hcI]; rfl
  clear hcd
  go_enter Tryz.func33, Tryz.ntmps33
  go_wp2_with fail
  refine cS.out.mono ?_
  rintro en wq ⟨rfl, rfl⟩
  go_wp2_with fail
  go_loopg [3] 1 (fun kx v wr => v = .int .i64 0 ∧ wq = wr)
  case atStart => exact ⟨rfl, rfl⟩
  case round =>
    obtain ⟨rfl, rfl⟩ := hrel
    go_wp2_with fail
    go_ret
    exact ⟨rfl, rfl⟩
set_option maxRecDepth 100000 in
/-- sum, behind a fault -/
theorem rvsum0 (hcd : cd ≠ 0) (c9 : w.cell? ⟨p, 9, none⟩ = some (.int .i64 (cd : Int))) : Calls Tryz.prog 15 #[.pointer (some ⟨p, 0, none⟩)] w (fun e w' => e = .returned (.int .i64 0) ∧ w' = w) := by
  have cS := Lib.hid (rvterm0 hcd c9)
  have hcI : ((cd : Int) == 0) = false := k_ne (b := 0) hcd
  have hcJ : ((cd : Int) != 0) = true := by rw [bne, hcI]; rfl
  clear hcd
  go_enter Tryz.func15, Tryz.ntmps15
  go_wp2_with fail
  refine cS.out.mono ?_
  rintro en wq ⟨rfl, rfl⟩
  go_wp2_with fail
  go_loopg [3] 1 (fun kx v wr => v = .int .i64 0 ∧ wq = wr)
  case atStart => exact ⟨rfl, rfl⟩
  case round =>
    obtain ⟨rfl, rfl⟩ := hrel
    go_wp2_with fail
    go_ret
    exact ⟨rfl, rfl⟩
theorem sumP_ofV (d : Nat) : sumP last wrong d = rowP last addS (rowP last mulS (minusF (powerP last wrong (innerP last wrong d)))) := by
  rw [sumP_eq]; rfl
theorem vinner_L {d : Nat} : ∀ f, innerP last wrong d = some f → KeepL f := fun f e => by
  cases d with
  | zero => cases e
  | succ d => injection e with e; rw [← e]; exact sumP_L d
theorem sumV_all (hT : TkOk T0 last) : ∀ (d o : Nat), o + d = 64 → PartV 15 T0 last wrong B p o (sumP last wrong d) := by
  intro d
  induction d with
  | zero =>
    intro o ho
    rw [sumP_ofV]
    exact rvsum hT (rvterm hT (rvMinus hT (powerP_L vinner_L) (rvPower hT (atomP_L vinner_L) (rvAtom hT (show InnV T0 last wrong B p o none from (by show o = 64; omega)) vinner_L))) (minusP_L (last := last) (wrong := wrong) (inner := innerP last wrong 0) vinner_L)) (rowP_L (minusP_L (last := last) (wrong := wrong) (inner := innerP last wrong 0) vinner_L))
  | succ d ih =>
    intro o ho
    rw [sumP_ofV]
    exact rvsum hT (rvterm hT (rvMinus hT (powerP_L vinner_L) (rvPower hT (atomP_L vinner_L) (rvAtom hT (show InnV T0 last wrong B p o (some (sumP last wrong d)) from ⟨by omega, ih (o + 1) (by omega)⟩) vinner_L))) (minusP_L (last := last) (wrong := wrong) (inner := innerP last wrong (d + 1)) vinner_L)) (rowP_L (minusP_L (last := last) (wrong := wrong) (inner := innerP last wrong (d + 1)) vinner_L))
set_option maxRecDepth 100000 in
set_option maxHeartbeats 8000000 in
/-- let -/
theorem rvLet {f : PF} (hT : TkOk T0 last) (hp : PartV 15 T0 last wrong B p oN f) (hLf : KeepL f) (hG : Good f) (hx : st.tx = [108, 101, 116]) (h : RvS T0 last wrong B p X oN st w) (r : PR Unit) (hr : letP last wrong f st = some r) :
    Calls Tryz.prog 14 #[.pointer (some ⟨p, 0, none⟩)] w (PostL T0 last wrong B p X oN w r) := by
  obtain ⟨j1, ji, jz0, jz1, jz2⟩ := info_parts info_let
  obtain ⟨i, hm, hk⟩ := h
  have hne := tx_ne hx
  have hlen := Lib.hid (fun st' (e : r = .ok () st') => by
    obtain ⟨r', hr', hg⟩ := letP_good (last := last) (wrong := wrong) hG hne
    rw [hr] at hr'
    exact hg () st' (by rw [← Option.some.inj hr', e]))
  have hB0 := Lib.hid (Below.refl B w)
  have hBs := Lib.hid hm.lt.2.1
  have hil := hk.il
  have hT9 := hT.tl
  have hUl := hk.lets
  have hk1 := hk.on hne
  have hkH := Lib.hid hk
  have hTl := Lib.hid (show st.T.length = T0.length - i from by rw [hk.iT, List.length_drop])
  obtain ⟨c3, f3⟩ := hm.cell_i
  have hm1 := Lib.hid (hm.set_i (i + 1))
  have hB1 := Lib.hid (hB0.out.trans (hm.setB 3 (.int .i64 ((i + 1 : Nat) : Int))))
  have hw1 : wrap64 ((i : Int) + 1) = (i : Int) + 1 := w64_in _ (by omega)
  have hw2 : wrap64 (((i + 1 : Nat) : Int) + 1) = ((i + 2 : Nat) : Int) := by rw [show ((i + 1 : Nat) : Int) + 1 = ((i + 2 : Nat) : Int) from by omega]; exact w64_in _ (by omega)
  have hw2' : wrap64 ((i : Int) + 1 + 1) = ((i + 2 : Nat) : Int) := by rw [show (i : Int) + 1 + 1 = ((i + 2 : Nat) : Int) from by omega]; exact w64_in _ (by omega)
  replace hT := Lib.hid hT
  replace hp := Lib.hid hp
  replace hLf := Lib.hid hLf
  replace hil := Lib.hid hil
  clear hm hk hB0 hne hx
  unfold letP at hr
  have htx1 := hk1.tx
  have hbt := (hT.out.byt (i + 1)).1
  obtain ⟨t1, ht1⟩ : ∃ t, t = txA T0 (i + 1) := ⟨_, rfl⟩
  rw [← ht1] at htx1 hbt
  rw [htx1] at hr
  obtain ⟨pl1, hpl1⟩ : ∃ q, q = plA T0 last (i + 1) := ⟨_, rfl⟩
  have hpl : st.on.pl last = pl1 := by rw [hpl1]; exact hk1.pl
  rw [hpl] at hr
  have hnm := Lib.hid (show st.on.names = st.names from rfl)
  have hL0 := Lib.hid (show st.on.L = st.L from rfl)
  go_enter Tryz.func14, Tryz.ntmps14
  go_wp2_with fail
  rw [show (i : Int) + 1 = ((i + 1 : Nat) : Int) from rfl]
  generalize w.setCell ⟨p, 3, none⟩ (.int .i64 ((i + 1 : Nat) : Int)) = w1 at hm1 hB1 ⊢
  clear c3 f3 hw1
  have cT := Lib.hid (rvText hT.out.tl hm1.out)
  have hM1 := Lib.hid (fun (W : World) (hb : Below w1.heap.size w1 W) => hm1.out.below hb)
  have hBs1 := Lib.hid hm1.out.lt.2.1
  rw [← ht1] at cT
  have cN := Lib.hid (fun (W : World) => rvIsName t1 hbt W)
  have cD := Lib.hid (fun (W : World) (hb : Below w1.heap.size w1 W) => rvNamed (st := st.on) t1 hbt hk1 hT.out (hM1.out W hb))
  obtain ⟨tk1, htk1⟩ : ∃ k, k = mkS t1 := ⟨_, rfl⟩
  simp only [← htk1] at cT cN cD
  replace htk1 := Lib.hid htk1
  replace ht1 := Lib.hid ht1
  replace hpl1 := Lib.hid hpl1
  replace hpl := Lib.hid hpl
  replace hbt := Lib.hid hbt
  replace htx1 := Lib.hid htx1
  replace hk1 := Lib.hid hk1
  refine cT.out.mono ?_
  rintro en w2 ⟨rfl, hdr⟩
  have hb2 := Lib.hid (hdr.below w1.heap.size)
  clear hdr cT
  by_cases hn : isName t1 = true
  case neg =>
    have hn2 : isName t1 = false := by simpa using hn
    rw [if_neg (by rw [hn2]; exact Bool.false_ne_true)] at hr
    rw [hn2] at cN
    obtain ⟨x, y, hu⟩ : ∃ x y, (unwP last wrong st.on : PR Unit) = .no x y := by
      rcases hu : (unwP last wrong st.on : PR Unit) with ⟨v, st2⟩ | ⟨x, y⟩
      · exact (unwP_ok hu).elim
      · exact ⟨x, y, rfl⟩
    have hrx : r = .no x y := by rw [hu] at hr; exact (Option.some.inj hr).symm
    subst hrx
    have cU := Lib.hid (rvWant (st := st.on) hT.out (hM1.out _ hb2.out) hk1.out hu)
    replace hu := Lib.hid hu
    have hB2 := Lib.hid (hB1.out.trans (hb2.out.mono hBs1.out))
    clear hr hn hn2 hUl hT9 hw2 hw2'
    go_wp2_with fail
    refine (cN.out _).mono ?_
    rintro en w3 ⟨rfl, rfl⟩
    go_wp2_with fail
    refine cU.out.mono ?_
    rintro en w6 ⟨rfl, hF6, hB6, hy⟩
    replace hF6 := Lib.hid hF6
    replace hB6 := Lib.hid (hB2.out.trans hB6)
    replace hy := Lib.hid hy
    go_wp2_with fail
    go_end0
    obtain ⟨o1, i1, N1, H1, hM6⟩ := hF6.out
    obtain ⟨vT, vN, vH, vL, hb⟩ := hM6.blk
    exact ⟨rfl, ⟨vT, vN, vH, vL, _, _, hb⟩, hB6.out, hy.out⟩
  rw [if_pos hn] at hr
  rw [hn] at cN
  replace hn := Lib.hid hn
  by_cases hin : t1 ∈ st.on.names
  case pos =>
    rw [decide_eq_true hin] at cD
    rw [if_pos (show t1 ∈ st.names from hin)] at hr
    have hrx : r = .no pl1 112 := (Option.some.inj hr).symm
    subst hrx
    have cP := Lib.hid (rvPlace hT.out.tl (hM1.out _ hb2.out))
    rw [← hpl1.out] at cP
    have cF := Lib.hid (fun (W : World) (hb : Below w1.heap.size w1 W) => rvFault pl1 112 (hM1.out W hb))
    have hB2 := Lib.hid (hB1.out.trans (hb2.out.mono hBs1.out))
    replace hin := Lib.hid hin
    replace cD := Lib.hid (cD.out _ hb2.out)
    clear hr hUl hT9 hw2 hw2'
    go_wp2_with fail
    refine (cN.out _).mono ?_
    rintro en w3 ⟨rfl, rfl⟩
    go_wp2_with fail
    refine cD.out.mono ?_
    rintro en w4 ⟨rfl, rfl⟩
    go_wp2_with fail
    refine cP.out.mono ?_
    rintro en w5 ⟨rfl, hdr⟩
    have hb5 := Lib.hid (hb2.out.trans (hdr.below _))
    replace cF := Lib.hid (cF.out _ hb5.out)
    have hB5 := Lib.hid (hB1.out.trans (hb5.out.mono hBs1.out))
    clear hdr
    go_wp2_with fail
    refine cF.out.mono ?_
    rintro en w6 ⟨rfl, hM6, hB6⟩
    replace hM6 := Lib.hid hM6
    replace hB6 := Lib.hid (hB5.out.trans hB6)
    go_wp2_with fail
    go_end0
    obtain ⟨vT, vN, vH, vL, hb⟩ := hM6.out.blk
    exact ⟨rfl, ⟨vT, vN, vH, vL, _, _, hb⟩, hB6.out, by decide⟩
  rw [decide_eq_false hin] at cD
  rw [if_neg (show ¬ t1 ∈ st.names from hin)] at hr
  have hne1 := Lib.hid (hk1.out.ne (by rw [htx1.out]; intro e; have h9 := hn.out; rw [e] at h9; cases h9))
  have hk2 := Lib.hid (hk1.out.on hne1.out)
  have hm2 := hM1.out _ hb2.out
  obtain ⟨c3, f3⟩ := hm2.cell_i
  have hm3 := Lib.hid (hm2.set_i (i + 2))
  have hB2 := Lib.hid (hB1.out.trans (hb2.out.mono hBs1.out))
  have hB3 := Lib.hid (hB2.out.trans (hm2.setB 3 (.int .i64 ((i + 2 : Nat) : Int))))
  replace cD := Lib.hid (cD.out _ hb2.out)
  replace hin := Lib.hid hin
  have hUl2 := Lib.hid hUl
  have hU9 : st.L.length ≤ 16384 := by have := hil.out; omega
  obtain ⟨nU, hnU⟩ : ∃ k, k = st.L.length := ⟨_, rfl⟩
  rw [← hnU] at hU9
  replace hnU := Lib.hid hnU
  clear hm2 hUl hM1 hB1 hm1
  go_wp2_with fail
  refine (cN.out _).mono ?_
  rintro en w3 ⟨rfl, rfl⟩
  go_wp2_with fail
  refine cD.out.mono ?_
  rintro en w4 ⟨rfl, rfl⟩
  go_upto_region 6 with fail
  clear cN cD
  go_upto_region 7 with fail
  rw [show (i : Int) + 2 = ((i + 2 : Nat) : Int) from rfl]
  generalize hWe : w4.setCell ⟨p, 3, none⟩ (.int .i64 ((i + 2 : Nat) : Int)) = w5 at hm3 hB3 ⊢
  clear c3 f3 hw2 hw2' hWe
  have e61 : mkS [61] = (⟨#[61]⟩ : ByteArray) := rfl
  have e59 : mkS [59] = (⟨#[59]⟩ : ByteArray) := rfl
  have cK := rvTake hT.out [61] (by unfold Byt; simp) (by simp) (show RvS T0 last wrong B p X oN st.on.on w5 from ⟨_, hm3.out, hk2.out⟩)
  rw [e61] at cK
  obtain ⟨rt, hrt⟩ : ∃ rt, rt = takeP last wrong [61] st.on.on := ⟨_, rfl⟩
  rw [← hrt] at cK hr
  have hLt := Lib.hid (fun u st1 (e : rt = .ok u st1) => (show st1.L = st.L from by rw [(takeP_ok (hrt.symm.trans e)).2]; rfl))
  have hL2 := Lib.hid (show st.on.on.L = st.L from rfl)
  replace hrt := Lib.hid hrt
  replace cK := Lib.hid cK
  clear hm3
  go_wp2_with fail
  refine cK.out.mono ?_
  clear cK
  rcases rt with ⟨u, st1⟩ | ⟨x, y⟩
  case no =>
    have hrx : r = .no x y := (Option.some.inj hr).symm
    subst hrx
    rintro en w6 ⟨rfl, ⟨o1, i1, N1, H1, hM6⟩, hB6, hy⟩
    obtain ⟨c9, -⟩ := hM6.cell_cd
    have cS := Lib.hid (rvsum0 hy c9)
    have cK2 := rvTake1 hT.out hy [59] hM6
    rw [e59] at cK2
    rw [hL2.out] at hM6
    have hM7 := Lib.hid (fun W hb => hM6.below (w' := W) hb)
    have hBs6 := Lib.hid hM6.lt.2.1
    replace cK2 := Lib.hid cK2
    replace hB6 := Lib.hid (hB3.out.trans hB6)
    replace hy := Lib.hid hy
    clear hr c9 hB3 hM6 e61 e59
    go_wp2_with fail
    refine cS.out.mono ?_
    rintro en w7 ⟨rfl, rfl⟩
    go_wp2_with fail
    refine cK2.out.mono ?_
    rintro en w8 ⟨rfl, hb8⟩
    have hM8 := hM7.out _ hb8
    have hB8 := Lib.hid (hB6.out.trans (hb8.mono hBs6.out))
    clear hb8 hM7 hB6
    have hBs8 := hM8.lt.2.1
    obtain ⟨vT, vN, vH, vL, h1, h4⟩ := hM8
    rw [← hnU.out] at h1
    have hkb : Blk w8 p 47 (rvC vT wrong last i1 o1 vN vH vL x y) := h1.1 _ (List.mem_cons_self ..)
    have hrL : w8.ownsRow B 54 2 vL nU (st.L.flatMap encL) := h1.1 (itRow B 54 2 vL nU (st.L.flatMap encL)) (by simp)
    obtain ⟨AL, cL, rfl, -, -⟩ := own_form hrL
    have a7 : w8.cell? ⟨p, 7, none⟩ = some (.slice AL nU cL) := hkb.cell 7
    replace h1 := Lib.hid h1
    have hrLH := Lib.hid hrL
    replace h4 := Lib.hid h4
    clear hkb hrL
    go_wp2_with (at_builtin; refine wpList_append_own_at _ rfl _ _ 23 rfl B 54 j1 (.agg #[.string ⟨#[]⟩, .int .i64 0]) 2 24 Tryz.underlying23 ji jz0 jz1 jz2 rfl (by decide) _ _ _ rfl (hrLH.out.alloc _) ⟨w8.heap.size, 0, none⟩ 1 1 [Value.string tk1, .int .i64 0] rfl rfl (news_blk (Blk.new w8 54 #[.string tk1, .int .i64 0])) (vlet_one tk1 _) (by unfold maxLen; omega) (by omega) (by simp; omega) ?_)
    intro v8 w9 hown8 hgrow8 _ hloc8
    obtain ⟨A8, c8, rfl, -, -⟩ := own_form hown8
    have hS8 : Hid (Sep w9 ([itBlk p 47 (rvC vT wrong last i1 o1 vN vH (.slice AL nU cL) x y), itRow B 67 2 vT T0.length (T0.flatMap encV), itRow B 52 5 vN N1.length (N1.flatMap encN), itRow B 3 1 vH H1.length (H1.flatMap encH), itRow B 54 2 (.slice A8 (nU + 1) c8) (nU + 1) (st.L.flatMap encL ++ [Value.string tk1, .int .i64 0])] ++ X)) := Lib.hid (Sep.five (h1.out.alloc (.cells #[.string tk1, .int .i64 0] 54)) hgrow8 hown8 (fun k hk => by
      have hk : (Value.slice A8 (nU + 1) c8).ownBlock = some k := hk
      rcases hloc8 with h | h
      · exact .inl (h.symm.trans hk)
      · refine .inr ?_
        rw [h] at hk
        injection hk with hk
        rw [← hk]
        simp))
    have hB9 : Hid (Below B w w9) := Lib.hid ((hB8.out.alloc hBs8 (.cells #[.string tk1, .int .i64 0] 54)).grown hgrow8 (by simp; omega) (fun q hq => (World.ownsRow.lt hrLH.out q hq).1))
    have hk9 : Blk w9 p 47 (rvC vT wrong last i1 o1 vN vH (.slice AL nU cL) x y) := hS8.out.1 _ (List.mem_cons_self ..)
    have a7' : w9.cell? ⟨p, 7, none⟩ = some (.slice AL nU cL) := hk9.cell 7
    have f7' := hk9.frozen 7
    have hS9 : Hid (Sep (w9.setCell ⟨p, 7, none⟩ (.slice A8 (nU + 1) c8)) ([itBlk p 47 (rvC vT wrong last i1 o1 vN vH (.slice A8 (nU + 1) c8) x y), itRow B 67 2 vT T0.length (T0.flatMap encV), itRow B 52 5 vN N1.length (N1.flatMap encN), itRow B 3 1 vH H1.length (H1.flatMap encH), itRow B 54 2 (.slice A8 (nU + 1) c8) (nU + 1) (st.L.flatMap encL ++ [Value.string tk1, .int .i64 0])] ++ X)) := Lib.hid (Sep.one hS8.out (gb_set (gb_refl w9 _) 7 (.slice A8 (nU + 1) c8)) (by
      have hb := Blk.set_ (hS8.out.1 _ (List.mem_cons_self ..)) 7 (.slice A8 (nU + 1) c8)
      exact hb) (fun k hk => .inl hk))
    have hB10 : Hid (Below B w (w9.setCell ⟨p, 7, none⟩ (.slice A8 (nU + 1) c8))) := Lib.hid (hB9.out.setCell (p := ⟨p, 7, none⟩) h4.out _)
    clear hk9 hown8 hgrow8 hloc8 hS8 hB9 hrLH a7 h1
    go_wp2_with fail
    go_end0
    exact ⟨rfl, ⟨_, _, _, _, _, _, hS9.out.1 _ (List.mem_cons_self ..)⟩, hB10.out, hy.out⟩
  case ok =>
    rintro en w6 ⟨rfl, h6, hB6⟩
    obtain ⟨r2, hr2⟩ : ∃ r2, f st1 = some r2 := by
      simp only at hr
      rcases hf : f st1 with _ | r2
      · rw [hf] at hr; cases hr
      · exact ⟨r2, rfl⟩
    simp only [hr2] at hr
    have cS := Lib.hid (hp.out X st1 w6 r2 h6 hr2)
    have hLs := Lib.hid (fun a st2 (e : r2 = .ok a st2) => (show st2.L = st.L from (hLf.out st1 a st2 (by rw [hr2, e])).trans (hLt.out _ _ rfl)))
    have hL3 := Lib.hid (show st1.L = st.L from hLt.out _ _ rfl)
    replace hr2 := Lib.hid hr2
    replace hB6 := Lib.hid (hB3.out.trans hB6)
    clear h6 hB3
    go_wp2_with fail
    refine cS.out.mono ?_
    clear cS
    rcases r2 with ⟨a, st2⟩ | ⟨x, y⟩
    case no =>
      have hrx : r = .no x y := (Option.some.inj hr).symm
      subst hrx
      rintro en w7 ⟨⟨z, rfl⟩, ⟨o1, i1, N1, H1, hM6⟩, hB7, hy⟩
      have cK2 := rvTake1 hT.out hy [59] hM6
      rw [e59] at cK2
      rw [hL3.out] at hM6
      have hM7 := Lib.hid (fun W hb => hM6.below (w' := W) hb)
      have hBs6 := Lib.hid hM6.lt.2.1
      replace cK2 := Lib.hid cK2
      replace hB7 := Lib.hid (hB6.out.trans hB7)
      replace hy := Lib.hid hy
      clear hr hB6 hM6 e61 e59
      go_wp2_with fail
      refine cK2.out.mono ?_
      rintro en w8 ⟨rfl, hb8⟩
      have hM8 := hM7.out _ hb8
      have hB8 := Lib.hid (hB7.out.trans (hb8.mono hBs6.out))
      clear hb8 hM7 hB7
      have hBs8 := hM8.lt.2.1
      obtain ⟨vT, vN, vH, vL, h1, h4⟩ := hM8
      rw [← hnU.out] at h1
      have hkb : Blk w8 p 47 (rvC vT wrong last i1 o1 vN vH vL x y) := h1.1 _ (List.mem_cons_self ..)
      have hrL : w8.ownsRow B 54 2 vL nU (st.L.flatMap encL) := h1.1 (itRow B 54 2 vL nU (st.L.flatMap encL)) (by simp)
      obtain ⟨AL, cL, rfl, -, -⟩ := own_form hrL
      have a7 : w8.cell? ⟨p, 7, none⟩ = some (.slice AL nU cL) := hkb.cell 7
      replace h1 := Lib.hid h1
      have hrLH := Lib.hid hrL
      replace h4 := Lib.hid h4
      clear hkb hrL
      go_wp2_with (at_builtin; refine wpList_append_own_at _ rfl _ _ 23 rfl B 54 j1 (.agg #[.string ⟨#[]⟩, .int .i64 0]) 2 24 Tryz.underlying23 ji jz0 jz1 jz2 rfl (by decide) _ _ _ rfl (hrLH.out.alloc _) ⟨w8.heap.size, 0, none⟩ 1 1 [Value.string tk1, .int .i64 z] rfl rfl (news_blk (Blk.new w8 54 #[.string tk1, .int .i64 z])) (vlet_one tk1 _) (by unfold maxLen; omega) (by omega) (by simp; omega) ?_)
      intro v8 w9 hown8 hgrow8 _ hloc8
      obtain ⟨A8, c8, rfl, -, -⟩ := own_form hown8
      have hS8 : Hid (Sep w9 ([itBlk p 47 (rvC vT wrong last i1 o1 vN vH (.slice AL nU cL) x y), itRow B 67 2 vT T0.length (T0.flatMap encV), itRow B 52 5 vN N1.length (N1.flatMap encN), itRow B 3 1 vH H1.length (H1.flatMap encH), itRow B 54 2 (.slice A8 (nU + 1) c8) (nU + 1) (st.L.flatMap encL ++ [Value.string tk1, .int .i64 z])] ++ X)) := Lib.hid (Sep.five (h1.out.alloc (.cells #[.string tk1, .int .i64 z] 54)) hgrow8 hown8 (fun k hk => by
        have hk : (Value.slice A8 (nU + 1) c8).ownBlock = some k := hk
        rcases hloc8 with h | h
        · exact .inl (h.symm.trans hk)
        · refine .inr ?_
          rw [h] at hk
          injection hk with hk
          rw [← hk]
          simp))
      have hB9 : Hid (Below B w w9) := Lib.hid ((hB8.out.alloc hBs8 (.cells #[.string tk1, .int .i64 z] 54)).grown hgrow8 (by simp; omega) (fun q hq => (World.ownsRow.lt hrLH.out q hq).1))
      have hk9 : Blk w9 p 47 (rvC vT wrong last i1 o1 vN vH (.slice AL nU cL) x y) := hS8.out.1 _ (List.mem_cons_self ..)
      have a7' : w9.cell? ⟨p, 7, none⟩ = some (.slice AL nU cL) := hk9.cell 7
      have f7' := hk9.frozen 7
      have hS9 : Hid (Sep (w9.setCell ⟨p, 7, none⟩ (.slice A8 (nU + 1) c8)) ([itBlk p 47 (rvC vT wrong last i1 o1 vN vH (.slice A8 (nU + 1) c8) x y), itRow B 67 2 vT T0.length (T0.flatMap encV), itRow B 52 5 vN N1.length (N1.flatMap encN), itRow B 3 1 vH H1.length (H1.flatMap encH), itRow B 54 2 (.slice A8 (nU + 1) c8) (nU + 1) (st.L.flatMap encL ++ [Value.string tk1, .int .i64 z])] ++ X)) := Lib.hid (Sep.one hS8.out (gb_set (gb_refl w9 _) 7 (.slice A8 (nU + 1) c8)) (by
        have hb := Blk.set_ (hS8.out.1 _ (List.mem_cons_self ..)) 7 (.slice A8 (nU + 1) c8)
        exact hb) (fun k hk => .inl hk))
      have hB10 : Hid (Below B w (w9.setCell ⟨p, 7, none⟩ (.slice A8 (nU + 1) c8))) := Lib.hid (hB9.out.setCell (p := ⟨p, 7, none⟩) h4.out _)
      clear hk9 hown8 hgrow8 hloc8 hS8 hB9 hrLH a7 h1
      go_wp2_with fail
      go_end0
      exact ⟨rfl, ⟨_, _, _, _, _, _, hS9.out.1 _ (List.mem_cons_self ..)⟩, hB10.out, hy.out⟩
    case ok =>
      rintro en w7 ⟨rfl, h7, hB7, ha7, hN7⟩
      have cK2 := rvTake hT.out [59] (by unfold Byt; simp) (by simp) h7
      rw [e59] at cK2
      obtain ⟨r3, hr3⟩ : ∃ r3, r3 = takeP last wrong [59] st2 := ⟨_, rfl⟩
      simp only [← hr3] at cK2 hr
      have hLu := Lib.hid (fun u st3 (e : r3 = .ok u st3) => (show st3.L = st.L from by rw [(takeP_ok (hr3.symm.trans e)).2]; exact hLs.out a st2 rfl))
      have hL4 := Lib.hid (show st2.L = st.L from hLs.out _ _ rfl)
      replace hr3 := Lib.hid hr3
      replace cK2 := Lib.hid cK2
      replace hB7 := Lib.hid (hB6.out.trans hB7)
      clear h7 hB6 ha7 hN7 e61 e59
      go_wp2_with fail
      refine cK2.out.mono ?_
      clear cK2
      rcases r3 with ⟨u, st3⟩ | ⟨x, y⟩
      case no =>
        have hrx : r = .no x y := (Option.some.inj hr).symm
        subst hrx
        rintro en w8 ⟨rfl, ⟨o1, i1, N1, H1, hM8⟩, hB8, hy⟩
        rw [hL4.out] at hM8
        replace hB8 := Lib.hid (hB7.out.trans hB8)
        replace hy := Lib.hid hy
        clear hr hB7
        have hBs8 := hM8.lt.2.1
        obtain ⟨vT, vN, vH, vL, h1, h4⟩ := hM8
        rw [← hnU.out] at h1
        have hkb : Blk w8 p 47 (rvC vT wrong last i1 o1 vN vH vL x y) := h1.1 _ (List.mem_cons_self ..)
        have hrL : w8.ownsRow B 54 2 vL nU (st.L.flatMap encL) := h1.1 (itRow B 54 2 vL nU (st.L.flatMap encL)) (by simp)
        obtain ⟨AL, cL, rfl, -, -⟩ := own_form hrL
        have a7 : w8.cell? ⟨p, 7, none⟩ = some (.slice AL nU cL) := hkb.cell 7
        replace h1 := Lib.hid h1
        have hrLH := Lib.hid hrL
        replace h4 := Lib.hid h4
        clear hkb hrL
        go_wp2_with (at_builtin; refine wpList_append_own_at _ rfl _ _ 23 rfl B 54 j1 (.agg #[.string ⟨#[]⟩, .int .i64 0]) 2 24 Tryz.underlying23 ji jz0 jz1 jz2 rfl (by decide) _ _ _ rfl (hrLH.out.alloc _) ⟨w8.heap.size, 0, none⟩ 1 1 [Value.string tk1, .int .i64 (a : Int)] rfl rfl (news_blk (Blk.new w8 54 #[.string tk1, .int .i64 (a : Int)])) (vlet_one tk1 _) (by unfold maxLen; omega) (by omega) (by simp; omega) ?_)
        intro v8 w9 hown8 hgrow8 _ hloc8
        obtain ⟨A8, c8, rfl, -, -⟩ := own_form hown8
        have hS8 : Hid (Sep w9 ([itBlk p 47 (rvC vT wrong last i1 o1 vN vH (.slice AL nU cL) x y), itRow B 67 2 vT T0.length (T0.flatMap encV), itRow B 52 5 vN N1.length (N1.flatMap encN), itRow B 3 1 vH H1.length (H1.flatMap encH), itRow B 54 2 (.slice A8 (nU + 1) c8) (nU + 1) (st.L.flatMap encL ++ [Value.string tk1, .int .i64 (a : Int)])] ++ X)) := Lib.hid (Sep.five (h1.out.alloc (.cells #[.string tk1, .int .i64 (a : Int)] 54)) hgrow8 hown8 (fun k hk => by
          have hk : (Value.slice A8 (nU + 1) c8).ownBlock = some k := hk
          rcases hloc8 with h | h
          · exact .inl (h.symm.trans hk)
          · refine .inr ?_
            rw [h] at hk
            injection hk with hk
            rw [← hk]
            simp))
        have hB9 : Hid (Below B w w9) := Lib.hid ((hB8.out.alloc hBs8 (.cells #[.string tk1, .int .i64 (a : Int)] 54)).grown hgrow8 (by simp; omega) (fun q hq => (World.ownsRow.lt hrLH.out q hq).1))
        have hk9 : Blk w9 p 47 (rvC vT wrong last i1 o1 vN vH (.slice AL nU cL) x y) := hS8.out.1 _ (List.mem_cons_self ..)
        have a7' : w9.cell? ⟨p, 7, none⟩ = some (.slice AL nU cL) := hk9.cell 7
        have f7' := hk9.frozen 7
        have hS9 : Hid (Sep (w9.setCell ⟨p, 7, none⟩ (.slice A8 (nU + 1) c8)) ([itBlk p 47 (rvC vT wrong last i1 o1 vN vH (.slice A8 (nU + 1) c8) x y), itRow B 67 2 vT T0.length (T0.flatMap encV), itRow B 52 5 vN N1.length (N1.flatMap encN), itRow B 3 1 vH H1.length (H1.flatMap encH), itRow B 54 2 (.slice A8 (nU + 1) c8) (nU + 1) (st.L.flatMap encL ++ [Value.string tk1, .int .i64 (a : Int)])] ++ X)) := Lib.hid (Sep.one hS8.out (gb_set (gb_refl w9 _) 7 (.slice A8 (nU + 1) c8)) (by
          have hb := Blk.set_ (hS8.out.1 _ (List.mem_cons_self ..)) 7 (.slice A8 (nU + 1) c8)
          exact hb) (fun k hk => .inl hk))
        have hB10 : Hid (Below B w (w9.setCell ⟨p, 7, none⟩ (.slice A8 (nU + 1) c8))) := Lib.hid (hB9.out.setCell (p := ⟨p, 7, none⟩) h4.out _)
        clear hk9 hown8 hgrow8 hloc8 hS8 hB9 hrLH a7 h1
        go_wp2_with fail
        go_end0
        exact ⟨rfl, ⟨_, _, _, _, _, _, hS9.out.1 _ (List.mem_cons_self ..)⟩, hB10.out, hy.out⟩
      case ok =>
        have hrx : r = .ok () { st3 with L := st3.L ++ [(t1, a)] } := (Option.some.inj hr).symm
        subst hrx
        rintro en w8 ⟨rfl, ⟨i1, hM8, hk8⟩, hB8⟩
        have hL5 := Lib.hid (show st3.L = st.L from hLu.out _ _ rfl)
        rw [hL5.out] at hM8
        replace hB8 := Lib.hid (hB7.out.trans hB8)
        replace hk8 := Lib.hid hk8
        clear hr hB7
        have hBs8 := hM8.lt.2.1
        obtain ⟨vT, vN, vH, vL, h1, h4⟩ := hM8
        rw [← hnU.out] at h1
        have hkb : Blk w8 p 47 (rvC vT wrong last i1 (oN : Int) vN vH vL 0 0) := h1.1 _ (List.mem_cons_self ..)
        have hrL : w8.ownsRow B 54 2 vL nU (st.L.flatMap encL) := h1.1 (itRow B 54 2 vL nU (st.L.flatMap encL)) (by simp)
        obtain ⟨AL, cL, rfl, -, -⟩ := own_form hrL
        have a7 : w8.cell? ⟨p, 7, none⟩ = some (.slice AL nU cL) := hkb.cell 7
        replace h1 := Lib.hid h1
        have hrLH := Lib.hid hrL
        replace h4 := Lib.hid h4
        clear hkb hrL
        go_wp2_with (at_builtin; refine wpList_append_own_at _ rfl _ _ 23 rfl B 54 j1 (.agg #[.string ⟨#[]⟩, .int .i64 0]) 2 24 Tryz.underlying23 ji jz0 jz1 jz2 rfl (by decide) _ _ _ rfl (hrLH.out.alloc _) ⟨w8.heap.size, 0, none⟩ 1 1 [Value.string tk1, .int .i64 (a : Int)] rfl rfl (news_blk (Blk.new w8 54 #[.string tk1, .int .i64 (a : Int)])) (vlet_one tk1 _) (by unfold maxLen; omega) (by omega) (by simp; omega) ?_)
        intro v8 w9 hown8 hgrow8 _ hloc8
        obtain ⟨A8, c8, rfl, -, -⟩ := own_form hown8
        have hS8 : Hid (Sep w9 ([itBlk p 47 (rvC vT wrong last i1 (oN : Int) vN vH (.slice AL nU cL) 0 0), itRow B 67 2 vT T0.length (T0.flatMap encV), itRow B 52 5 vN st3.N.length (st3.N.flatMap encN), itRow B 3 1 vH st3.H.length (st3.H.flatMap encH), itRow B 54 2 (.slice A8 (nU + 1) c8) (nU + 1) (st.L.flatMap encL ++ [Value.string tk1, .int .i64 (a : Int)])] ++ X)) := Lib.hid (Sep.five (h1.out.alloc (.cells #[.string tk1, .int .i64 (a : Int)] 54)) hgrow8 hown8 (fun k hk => by
          have hk : (Value.slice A8 (nU + 1) c8).ownBlock = some k := hk
          rcases hloc8 with h | h
          · exact .inl (h.symm.trans hk)
          · refine .inr ?_
            rw [h] at hk
            injection hk with hk
            rw [← hk]
            simp))
        have hB9 : Hid (Below B w w9) := Lib.hid ((hB8.out.alloc hBs8 (.cells #[.string tk1, .int .i64 (a : Int)] 54)).grown hgrow8 (by simp; omega) (fun q hq => (World.ownsRow.lt hrLH.out q hq).1))
        have hk9 : Blk w9 p 47 (rvC vT wrong last i1 (oN : Int) vN vH (.slice AL nU cL) 0 0) := hS8.out.1 _ (List.mem_cons_self ..)
        have a7' : w9.cell? ⟨p, 7, none⟩ = some (.slice AL nU cL) := hk9.cell 7
        have f7' := hk9.frozen 7
        have hS9 : Hid (Sep (w9.setCell ⟨p, 7, none⟩ (.slice A8 (nU + 1) c8)) ([itBlk p 47 (rvC vT wrong last i1 (oN : Int) vN vH (.slice A8 (nU + 1) c8) 0 0), itRow B 67 2 vT T0.length (T0.flatMap encV), itRow B 52 5 vN st3.N.length (st3.N.flatMap encN), itRow B 3 1 vH st3.H.length (st3.H.flatMap encH), itRow B 54 2 (.slice A8 (nU + 1) c8) (nU + 1) (st.L.flatMap encL ++ [Value.string tk1, .int .i64 (a : Int)])] ++ X)) := Lib.hid (Sep.one hS8.out (gb_set (gb_refl w9 _) 7 (.slice A8 (nU + 1) c8)) (by
          have hb := Blk.set_ (hS8.out.1 _ (List.mem_cons_self ..)) 7 (.slice A8 (nU + 1) c8)
          exact hb) (fun k hk => .inl hk))
        have hB10 : Hid (Below B w (w9.setCell ⟨p, 7, none⟩ (.slice A8 (nU + 1) c8))) := Lib.hid (hB9.out.setCell (p := ⟨p, 7, none⟩) h4.out _)
        clear hk9 hown8 hgrow8 hloc8 hS8 hB9 hrLH a7 h1
        go_wp2_with fail
        go_end0
        refine ⟨rfl, ⟨i1, ⟨vT, vN, vH, (.slice A8 (nU + 1) c8), ?_, h4.out⟩, ?_⟩, hB10.out⟩
        · have e1 : ({ st3 with L := st3.L ++ [(t1, a)] } : PS).L.length = nU + 1 := by
            show (st3.L ++ [(t1, a)]).length = _
            rw [List.length_append, hL5.out, hnU.out]; rfl
          have e2 : ({ st3 with L := st3.L ++ [(t1, a)] } : PS).L.flatMap encL = st.L.flatMap encL ++ [Value.string tk1, .int .i64 (a : Int)] := by
            show (st3.L ++ [(t1, a)]).flatMap encL = _
            rw [hL5.out, htk1.out]; simp [encL]
          rw [e1, e2]
          exact hS9.out
        · have h9 := hk8.out
          have h10 := hlen.out _ rfl
          have h11 : st3.T.length = T0.length - i1 := by rw [h9.iT, List.length_drop]
          have h12 := hTl.out
          have h13 : st3.T.length < st.T.length := h10
          have h14 := hkH.out.lets
          have h15 := h9.il
          refine ⟨h9.iT, h9.il, h9.len, h9.max, h9.hs, ?_, ?_⟩
          · show (st3.L ++ [(t1, a)]).length ≤ i1
            rw [List.length_append, hL5.out, List.length_singleton]
            omega
          · intro t ht
            have ht : t ∈ (st3.L ++ [(t1, a)]).map (·.1) := ht
            rw [List.map_append] at ht
            rcases List.mem_append.1 ht with ht | ht
            · exact h9.nams t ht
            · rw [List.mem_singleton.1 ht]; exact hbt.out
end
end Go.Proofs.YtnaadajcehfmiaaGreatDoor
