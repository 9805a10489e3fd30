/- lang: sums within brackets; the lets and the map of a text. -/
import Derived.Test.YtnaadajcehfmiaaGreatDoorLrJ
namespace Go.Proofs.YtnaadajcehfmiaaGreatDoor
open Go.RowKit Go.Sort Go.Maps

theorem info_let : (Tryz.prog.info? 54).map (fun i => (i.zero, i.size, i.bytes)) = some (some (.agg #[.string ⟨#[]⟩, .int .i64 0]), 2, 24) := by kernel_rfl
section
variable {s : ByteArray} {last : Nat} {wrong : Bool} {B p gm o : Nat} {X : List It} {st : PS} {w w' : World}
theorem sumP_of (d : Nat) : sumP last wrong d = rowP last addS (rowP last mulS (minusP last wrong (innerP last wrong d))) := by
  rw [sumP_eq]; rfl
set_option maxRecDepth 100000 in
theorem sum_all : ∀ (d o : Nat), o + d = 64 → PartC 25 s last wrong B p gm o (sumP last wrong d) := by
  intro d
  induction d with
  | zero =>
    intro o ho
    rw [sumP_of]
    exact sum_rd (term_rd (minus_rd (show InnC s last wrong B p gm o none from (by show o = 64; omega))))
  | succ d ih =>
    intro o ho
    rw [sumP_of]
    exact sum_rd (term_rd (minus_rd (show InnC s last wrong B p gm o (some (sumP last wrong d)) from ⟨by omega, ih (o + 1) (by omega)⟩)))
theorem Sep.three {w w' : World} {a b c c' : It} {l : List It} (h : Sep w (a :: b :: c :: l)) (hg : w.grownBy w' c.own) (hP : c'.P w') (hloc : ∀ k, c'.own = some k → c.own = some k ∨ w.heap.size ≤ k) : Sep w' (a :: b :: c' :: l) := Sep.upd (A := [a, b]) h hg hP hloc
theorem Sep.five {w w' : World} {a b c d e e' : It} {l : List It} (h : Sep w (a :: b :: c :: d :: e :: l)) (hg : w.grownBy w' e.own) (hP : e'.P w') (hloc : ∀ k, e'.own = some k → e.own = some k ∨ w.heap.size ≤ k) : Sep w' (a :: b :: c :: d :: e' :: l) := Sep.upd (A := [a, b, c, d]) h hg hP hloc
theorem Below.of_gb {w w' : World} {g B : Nat} (h : w.grownBy w' (some g)) (hg : B ≤ g) (hB : B ≤ w.heap.size) : Below B w w' := ⟨h.os, h.tape, h.output, h.size, fun k hk => h.block k (Nat.lt_of_lt_of_le hk hB) (fun e => by injection e with e; omega)⟩
theorem let_one (tk : ByteArray) (a : Nat) : ∀ u ∈ [Value.string tk, .int .i64 (a : Int)], u.oneCell' = true := fun u hu => by
  simp only [List.mem_cons, List.not_mem_nil, or_false] at hu
  rcases hu with rfl | rfl <;> rfl
theorem NamesD.put {D : DataW Unit} {ks : List (List Nat)} (h : NamesD D ks) {t : List Nat} (ht : Byt t) : NamesD (D.put (.string (mkS t).data.toList) (.lit (.bool true))) (ks ++ [t]) := by
  have hk : WideAt.IsKeyLit (Lit.string (mkS t).data.toList) := trivial
  refine ⟨h.isMap.put _ _, fun t' ht' => ?_⟩
  by_cases e : t' = t
  · subst e
    rw [atKey_put_same h.isMap hk]
    simp
  · have hne : Lit.string (mkS t').data.toList ≠ Lit.string (mkS t).data.toList := fun e2 => by
      injection e2 with e2
      have h3 : mkS t' = mkS t := ByteArray.ext (Array.ext' e2)
      apply e
      rw [← sl_mk t' ht', ← sl_mk t ht]
      exact congrArg sl h3
    rw [atKey_put_other hne, h.get t' ht']
    simp [e]
set_option maxRecDepth 100000 in
theorem unwanted_c (fr : Nat) (bd : Bool) (hB : B ≤ w.heap.size) (c1 : w.cell? ⟨p, 1, none⟩ = some (.int .i64 (fr : Int))) (c3 : w.cell? ⟨p, 3, none⟩ = some (.bool bd)) :
    Calls Tryz.prog 22 #[.pointer (some ⟨p, 0, none⟩)] w (PanF B fr (if bd then 110 else 111) w) := by
  have hG := Lib.hid (fun c : Nat => giveUp_any B fr c w hB)
  cases bd
  · go_enter Tryz.func22, Tryz.ntmps22
    go_wp2_with fail
    refine (hG.out 111).mono ?_
    rintro e w' ⟨q, rfl, hq⟩
    exact ⟨rfl, q, rfl, hq⟩
  · go_enter Tryz.func22, Tryz.ntmps22
    go_wp2_with fail
    refine (hG.out 110).mono ?_
    rintro e w' ⟨q, rfl, hq⟩
    exact ⟨rfl, q, rfl, hq⟩
/-- The map's place is laid: what stays. -/
theorem RdS.fin (h : RdS s last wrong B p gm X o st w) (m : Nat) : ∃ vN vL, let W := w.setCell ⟨p, 8, none⟩ (.int .i64 (m : Int))
    w.cell? ⟨p, 8, none⟩ = some (.int .i64 0) ∧ w.frozen? ⟨p, 8, none⟩ = false ∧ W.cell? ⟨p, 6, none⟩ = some vN ∧ W.cell? ⟨p, 7, none⟩ = some vL ∧ W.cell? ⟨p, 8, none⟩ = some (.int .i64 (m : Int)) ∧
      W.cell? ⟨p, 1, none⟩ = some (.int .i64 (st.pl last : Int)) ∧ W.cell? ⟨p, 2, none⟩ = some (.string (mkS st.tx)) ∧ W.cell? ⟨p, 3, none⟩ = some (.bool (st.T.isEmpty && wrong)) ∧
      Sep W ([itRow B 52 5 vN st.N.length (st.N.flatMap encN), itRow B 54 2 vL st.L.length (st.L.flatMap encL)] ++ X) ∧ Below B w W ∧ st.N.length ≤ 4096 ∧ st.L.length ≤ 16385 := by
  obtain ⟨nx, vN, vL, vH, D, h1, h2, h3, h4, h5⟩ := h
  have hb : Blk w p 42 (rdC s (st.pl last) (mkS st.tx) (st.T.isEmpty && wrong) nx o vN vL vH gm) := h1.1 _ (List.mem_cons_self ..)
  have hs := Blk.set_ hb 8 (.int .i64 (m : Int))
  have hS := Sep.one (a' := itBlk p 42 ((rdC s (st.pl last) (mkS st.tx) (st.T.isEmpty && wrong) nx o vN vL vH gm).setIfInBounds 8 (.int .i64 (m : Int)))) h1 (gb_set (gb_refl w _) 8 (.int .i64 (m : Int))) hs (fun k hk => .inl hk)
  refine ⟨vN, vL, hb.cell 8, hb.frozen 8, hs.cell 6, hs.cell 7, hs.cell 8, hs.cell 1, hs.cell 2, hs.cell 3, ?_, (Below.refl B w).setCell (p := ⟨p, 8, none⟩) h4 _, h3.max, h3.lets⟩
  refine hS.sub ?_
  refine List.Sublist.cons _ (List.Sublist.cons_cons _ (List.Sublist.cons_cons _ ?_))
  exact List.Sublist.cons _ (List.Sublist.cons _ (List.Sublist.cons _ (List.Sublist.cons _ (List.Sublist.refl _))))
theorem RdS.tok_ne (h : RdS s last wrong B p gm X o st w) (hT : st.T ≠ []) : (mkS st.tx).toList ≠ [] := by
  obtain ⟨nx, vN, vL, vH, D, h1, h2, h3, h4⟩ := h
  intro e
  rw [ByteArray.toList_eq, mkS_data] at e
  rcases hTT : st.T with _ | ⟨t, T⟩
  · exact hT hTT
  · have h5 := (h3.toks t (by rw [hTT]; exact List.mem_cons_self ..)).1
    have e2 : st.tx = t.text := by unfold PS.tx; rw [hTT]
    rw [e2] at e
    exact h5 (List.map_eq_nil_iff.1 e)
/-- How 'text' ends. -/
def PostT (s : ByteArray) (B p : Nat) (X : List It) (w : World) (r : PR Nat) (e : Ending) (w' : World) : Prop :=
  match r with
  | .ok m st' => e = .returned (.tuple #[]) ∧ (∃ vN vL, w'.cell? ⟨p, 6, none⟩ = some vN ∧ w'.cell? ⟨p, 7, none⟩ = some vL ∧ w'.cell? ⟨p, 8, none⟩ = some (.int .i64 (m : Int)) ∧
      Sep w' ([itRow B 52 5 vN st'.N.length (st'.N.flatMap encN), itRow B 54 2 vL st'.L.length (st'.L.flatMap encL)] ++ X)) ∧ Below B w w' ∧ m < st'.N.length ∧ st'.N.length ≤ 4096 ∧ st'.L.length ≤ 16385
  | .no a c => PanF B a c w e w'
theorem RdS.bad (h : RdS s last wrong B p gm X o st w) : w.cell? ⟨p, 3, none⟩ = some (.bool (st.T.isEmpty && wrong)) := by
  obtain ⟨nx, vN, vL, vH, h⟩ := h.blk
  exact h.cell 3
set_option maxRecDepth 100000 in
/-- A name is looked up, in whatever world of the reader. -/
theorem RdS.looked (h : RdS s last wrong B p gm X o st w) (t : List Nat) (ht : Byt t) (hl : t.length ≤ 16384) : Sem.run Tryz.prog (Instr.lookup 39 (.map (some gm)) (.string (mkS t)) false) w = .ok (.bool (decide (t ∈ st.names))) w := by
  obtain ⟨D, n, h1, h2, -⟩ := h.names
  have hk := WideMaps.keyOf_string_mk Tryz.underlying9 (s := mkS t) (by rw [mkS_size]; unfold maxLen; omega)
  obtain ⟨v, ps, hrun, hv⟩ := h1.lookup lawStr9 Tryz.underlying39 (zeroBo w) (zd := .lit (.bool false)) (zp := []) (plainElem_bool Tryz.underlying4 false) hk
  rw [h2.get t ht] at hv
  have hvv : v = .bool (decide (t ∈ st.names)) := by
    unfold plainElem at hv
    rw [Tryz.underlying4] at hv
    cases v <;> simp_all
  rw [hrun, hvv]
set_option maxRecDepth 100000 in
set_option maxHeartbeats 8000000 in
/-- text -/
theorem text_rd (hsz : s.size ≤ 16384) (h : RdS s last wrong B p gm X 0 st w) (hLT : st.L.length + st.T.length ≤ 16385) (r : PR Nat) (n0 : Nat) (hr : textP last wrong (sumP last wrong 64) n0 st = some r) :
    Calls Tryz.prog 11 #[.pointer (some ⟨p, 0, none⟩)] w (PostT s B p X w r) := by
  obtain ⟨j1, ji, jz0, jz1, jz2⟩ := info_parts info_let
  have cS := Lib.hid (sum_all (s := s) (last := last) (wrong := wrong) (B := B) (p := p) (gm := gm) 64 0 rfl)
  have hR0 := Lib.hid h
  have hB0 : Hid (Below B w w) := Lib.hid (Below.refl B w)
  have hrr0 := Lib.hid hr
  clear h hr
  go_enter Tryz.func11, Tryz.ntmps11
  go_wp2_with fail
  go_loopg [2] n0 (fun kx s2 wr => ∃ (n : Nat) (st' : PS), Hid (RdS s last wrong B p gm X 0 st' wr) ∧ Hid (Below B w wr) ∧ Hid (textP last wrong (sumP last wrong 64) n st' = some r) ∧ Hid (st'.L.length + st'.T.length ≤ 16385) ∧ n ≤ kx)
  case atStart => exact ⟨n0, st, hR0, hB0, hrr0, Lib.hid hLT, Nat.le_refl _⟩
  case round =>
    obtain ⟨n, st', hR, hB, htx, hLT', hnk⟩ := hrel
    rcases n with _ | n
    · have := htx.out
      rw [textP] at this
      cases this
    have htx2 := htx.out
    rw [textP] at htx2
    have b2 : wr.cell? ⟨p, 2, none⟩ = some (.string (mkS st'.tx)) := hR.out.token
    have i1 := mkS_is hR.out.byt [108, 101, 116] (by unfold Byt; simp)
    obtain ⟨tk, htk⟩ : ∃ q, q = mkS st'.tx := ⟨_, rfl⟩
    rw [← htk] at b2 i1
    replace htk := Lib.hid htk
    replace htx := Lib.hid htx2
    clear htx2
    by_cases hx : st'.tx = [108, 101, 116]
    case neg =>
      have i1' : ¬ tk.toList = [108, 101, 116] := fun e => hx (i1.1 e)
      have k1' : (tk.toList == [108, 101, 116]) = false := beq_eq_false_iff_ne.2 i1'
      have hm := htx.out
      rw [if_neg hx] at hm
      clear i1 hx htx
      obtain ⟨r1, hr1⟩ : ∃ r1, sumP last wrong 64 st' = some r1 := by
        unfold mapP at hm
        rcases hf : sumP last wrong 64 st' with _ | r1
        · rw [hf] at hm; cases hm
        · exact ⟨r1, rfl⟩
      have cP := Lib.hid (cS.out X st' wr r1 hR.out hr1)
      unfold mapP at hm
      simp only [hr1] at hm
      replace hr1 := Lib.hid hr1
      replace hm := Lib.hid hm
      clear hR
      go_wp2_with fail
      refine cP.out.mono ?_
      rcases r1 with ⟨m, st1⟩ | ⟨x, y⟩
      case no =>
        have hrr : r = .no x y := (Option.some.inj hm.out).symm
        subst hrr
        rintro en w3 hqq
        obtain ⟨q, rfl, h9⟩ := PanF.pre hqq hB.out
        exact ⟨rfl, q, rfl, h9⟩
      case ok =>
        rintro en w3 ⟨rfl, h3, hB3, hm3, hN3⟩
        have hB0 := h3.lt.2
        have hbt := Lib.hid h3.byt
        have hne1 := h3.tok_ne
        obtain ⟨vN, vL, c8, f8, d6, d7, d8, d1, d2, d3, hSp, hBs, hx1, hx2⟩ := h3.fin m
        have hBw : B ≤ (w3.setCell ⟨p, 8, none⟩ (.int .i64 (m : Int))).heap.size := Nat.le_trans hB0 hBs.size
        have cU := fun fr bd e1 e2 => unwanted_c (B := B) (p := p) fr bd hBw e1 e2
        replace hB3 := Lib.hid (hB.out.trans (hB3.trans hBs))
        replace hSp := Lib.hid hSp
        clear h3 hBs cP hB
        have hm2 := hm.out
        simp only at hm2
        by_cases hT : st1.T = []
        case pos =>
          have etx : mkS st1.tx = (⟨#[]⟩ : ByteArray) := by unfold PS.tx; rw [hT]; rfl
          have epl : st1.pl last = last := by unfold PS.pl; rw [hT]
          have ebd : (st1.T.isEmpty && wrong) = wrong := by rw [hT]; rfl
          rw [etx] at d2
          rw [epl] at d1
          rw [ebd] at d3
          rcases hwr : wrong with _ | _
          case false =>
            rw [if_pos ⟨hT, hwr⟩] at hm2
            have hrr : r = .ok m st1 := (Option.some.inj hm2).symm
            subst hrr
            rw [hwr] at d3
            clear hm2 hm cU etx epl ebd d1 hrr0
            go_wp2_with fail
            go_end0
            exact ⟨rfl, ⟨vN, vL, d6, d7, d8, hSp.out⟩, hB3.out, hm3, hx1, hx2⟩
          case true =>
            rw [if_neg (fun h => by rw [hwr] at h; cases h.2)] at hm2
            have hrr : r = .no last 110 := by
              rw [← Option.some.inj hm2]
              unfold unwP
              rw [hT, hwr]; rfl
            subst hrr
            rw [hwr] at d3
            have cUU := Lib.hid (cU last true d1 d3)
            clear hm2 hm cU etx epl ebd hrr0 hwr
            go_wp2_with fail
            refine cUU.out.mono ?_
            rintro en w5 hqq
            obtain ⟨q, rfl, h9⟩ := PanF.pre hqq hB3.out
            exact ⟨rfl, q, rfl, h9⟩
        case neg =>
          rw [if_neg (fun h => hT h.1)] at hm2
          have ebd : (st1.T.isEmpty && wrong) = false := by
            have : st1.T.isEmpty = false := by simpa using hT
            rw [this]; rfl
          have hrr : r = .no (st1.pl last) 111 := by
            rw [← Option.some.inj hm2]
            unfold unwP PS.pl
            rcases hTT : st1.T with _ | ⟨t, T⟩
            · exact absurd hTT hT
            · rfl
          rw [ebd] at d3
          have cUU := Lib.hid (cU (st1.pl last) false d1 d3)
          have htok : ¬ (mkS st1.tx).toList = [] := fun e => hne1 hT e
          have htok2 : (mkS st1.tx).toList.isEmpty = false := by simpa using htok
          subst hrr
          clear hm2 hm cU ebd hrr0 hne1
          go_wp2_with fail
          refine cUU.out.mono ?_
          rintro en w5 hqq
          obtain ⟨q, rfl, h9⟩ := PanF.pre hqq hB3.out
          exact ⟨rfl, q, rfl, h9⟩
    case pos =>
      have i1' : tk.toList = [108, 101, 116] := i1.2 hx
      have hT := tx_T (st := st') (by rw [hx]; simp)
      have hm := htx.out
      rw [if_pos hx] at hm
      obtain ⟨rl, hrl, hlg⟩ := letP_good (sumP_good (last := last) (wrong := wrong) 64) (last := last) (wrong := wrong) hT
      have hrlH := Lib.hid hrl
      have hlgH := Lib.hid hlg
      clear hrl hlg
      have cO := Lib.hid (onS hR.out hT)
      clear i1 hx htx hT
      go_wp2_with fail
      refine cO.out.mono ?_
      rintro en w2 ⟨rfl, h2, hB2⟩
      obtain ⟨st1, hst1⟩ : ∃ q, q = st'.on := ⟨_, rfl⟩
      unfold letP at hm
      rw [← hst1] at h2 hm
      have hnm : st1.names = st'.names := by rw [hst1]; rfl
      rw [← hnm] at hm
      obtain ⟨tk1, htk1⟩ : ∃ q, q = mkS st1.tx := ⟨_, rfl⟩
      obtain ⟨pl1, hpl1⟩ : ∃ q, q = st1.pl last := ⟨_, rfl⟩
      have e2 : w2.cell? ⟨p, 2, none⟩ = some (.string tk1) := by rw [htk1]; exact h2.token
      have e1 : w2.cell? ⟨p, 1, none⟩ = some (.int .i64 (pl1 : Int)) := by rw [hpl1]; exact h2.from_
      have hbyt := Lib.hid h2.byt
      have hlen := Lib.hid h2.errs.2.2
      have cNm := fun W => name_any st1.tx hbyt.out W
      rw [← htk1] at cNm
      have hnam := Lib.hid hnm
      replace hst1 := Lib.hid hst1
      replace hpl1 := Lib.hid hpl1
      replace htk1 := Lib.hid htk1
      replace h2 := Lib.hid h2
      replace hB2 := Lib.hid (hB.out.trans hB2)
      clear cO hB hR b2 i1' hnm
      by_cases hd : isName st1.tx = true
      case neg =>
        have hd2 : isName st1.tx = false := by simpa using hd
        rw [if_neg hd] at hm
        rw [hd2] at cNm
        have cU := Lib.hid (fun a c => unwS (α := Unit) (a := a) (c := c) h2.out)
        replace cNm := Lib.hid cNm
        rcases hu : (unwP last wrong st1 : PR Unit) with ⟨v, st3⟩ | ⟨x, y⟩
        case ok => exact (unwP_ok hu).elim
        case no =>
          have cUU := Lib.hid (cU.out x y hu)
          have hrr : r = .no x y := by rw [hu] at hm; exact (Option.some.inj hm).symm
          subst hrr
          clear cU hu hd hd2 hm e1
          go_wp2_with fail
          refine (cNm.out _).mono ?_
          rintro en w3 ⟨rfl, hw⟩
          obtain rfl := hw.symm
          clear hw cNm
          go_wp2_with fail
          refine cUU.out.mono ?_
          rintro en w3 hqq
          obtain ⟨q, rfl, h9⟩ := PanF.pre hqq hB2.out
          exact ⟨rfl, q, rfl, h9⟩
      case pos =>
        rw [if_pos hd] at hm
        rw [hd] at cNm
        have hnmH := Lib.hid hd
        have hT1 := Lib.hid (tx_T (st := st1) (fun e => by rw [e] at hd; cases hd))
        replace cNm := Lib.hid cNm
        have q2 : ∀ d os, (grow (redrawn w2 d) os).cell? ⟨p, 2, none⟩ = some (.string tk1) := cell_regrown e2
        obtain ⟨D0, nD0, hM0, hND0, a10⟩ := h2.out.names
        have q10 : ∀ d os, (grow (redrawn w2 d) os).cell? ⟨p, 10, none⟩ = some (.map (some gm)) := cell_regrown a10
        obtain ⟨bn, hbn⟩ : ∃ b, b = decide (st1.tx ∈ st1.names) := ⟨_, rfl⟩
        have hlook : ∀ d os, Sem.run Tryz.prog (Instr.lookup 39 (.map (some gm)) (.string tk1) false) (grow (redrawn w2 d) os) = .ok (.bool bn) (grow (redrawn w2 d) os) := fun d os => by
          rw [htk1.out, hbn]
          exact (h2.out.below (below_regrown w2 d os)).looked st1.tx hbyt.out hlen.out
        replace hbn := Lib.hid hbn
        clear hM0 hND0 a10 hd
        go_wp2_with fail
        refine (cNm.out _).mono ?_
        rintro en w3 ⟨rfl, hw⟩
        obtain rfl := hw.symm
        clear hw cNm
        go_upto_region 4 with fail
        refine wp_region_quiet_below (by kernel_rfl) (by kernel_rfl) ?_
        iterate 9 (quiet_step (fail))
        refine wpQuiet_nil ?_
        intro w4 hw'
        have hE : Below w2.heap.size w2 w4 := by
          obtain ⟨q, rfl⟩ := hw'
          exact below_regrown w2 q.d q.os
        have e24 : w4.cell? ⟨p, 2, none⟩ = some (.string tk1) := by rw [htk1.out]; exact (h2.out.below hE).token
        have e14 : w4.cell? ⟨p, 1, none⟩ = some (.int .i64 (pl1 : Int)) := by rw [hpl1.out]; exact (h2.out.below hE).from_
        replace hB2 := Lib.hid (hB2.out.trans (hE.mono h2.out.lt.2))
        replace h2 := Lib.hid (h2.out.below hE)
        clear hw' hE q2 q10 hlook e1 e2
        by_cases hmem : st1.tx ∈ st1.names
        case pos =>
          rw [if_pos hmem] at hm
          have hrr : r = .no pl1 112 := by rw [hpl1.out]; exact (Option.some.inj hm).symm
          obtain rfl : bn = true := by rw [hbn.out]; exact decide_eq_true hmem
          subst hrr
          have cG := Lib.hid (giveUp_any B pl1 112 w4 h2.out.lt.2)
          clear hm hmem hbn e24
          go_wp2_with fail
          refine cG.out.mono ?_
          rintro en w5 hqq
          obtain ⟨q, rfl, h9⟩ := PanF.pre hqq hB2.out
          exact ⟨rfl, q, rfl, h9⟩
        case neg =>
          rw [if_neg hmem] at hm
          obtain rfl : bn = false := by rw [hbn.out]; exact decide_eq_false hmem
          replace hmem := Lib.hid hmem
          clear hbn e14
          have hP2 := Lib.hid (h2.out.push (a := itBlk w4.heap.size 54 #[.string tk1, .int .i64 0]) (World.grownBy_alloc w4 (.cells #[.string tk1, .int .i64 0] 54) none) (Blk.new w4 54 #[.string tk1, .int .i64 0]) (fun k hk => by
            injection hk with hk
            omega))
          have kn := Blk.new w4 54 #[.string ⟨#[]⟩, .int .i64 0]
          have g0 : (w4.alloc (.cells #[.string ⟨#[]⟩, .int .i64 0] 54)).cell? ⟨w4.heap.size, 0, none⟩ = some (.string ⟨#[]⟩) := kn.cell 0
          have g1 : (w4.alloc (.cells #[.string ⟨#[]⟩, .int .i64 0] 54)).cell? ⟨w4.heap.size, 1, none⟩ = some (.int .i64 0) := kn.cell 1
          have gf0 := kn.frozen 0
          have gf1 := kn.frozen 1
          have hBg : B ≤ w4.heap.size := h2.out.lt.2
          have hB6 : Hid (Below B w (w4.alloc (.cells #[.string tk1, .int .i64 0] 54))) := Lib.hid (hB2.out.alloc hBg _)
          clear kn
          go_upto_region 7 with fail
          generalize hW : (w4.alloc (.cells #[.string tk1, .int .i64 0] 54)) = w6 at hP2 hB6 ⊢
          generalize hg : w4.heap.size = gl at hP2 hBg ⊢
          clear hW hg g0 g1 gf0 gf1 hB2 h2 e24 w4
          have cO := Lib.hid (onS hP2.out hT1.out)
          go_wp2_with fail
          refine cO.out.mono ?_
          rintro en w7 ⟨rfl, h7, hB7⟩
          replace hB7 := Lib.hid (hB6.out.trans hB7)
          have cT := takeS [61] (by unfold Byt; simp) (by simp) h7
          have e61 : mkS [61] = (⟨#[61]⟩ : ByteArray) := rfl
          rw [e61] at cT
          obtain ⟨r2, hr2⟩ : ∃ r2, r2 = takeP last wrong [61] st1.on := ⟨_, rfl⟩
          rw [← hr2] at cT hm
          replace cT := Lib.hid cT
          replace hm := Lib.hid hm
          clear cO hP2 hB6 h7 e61
          go_wp2_with fail
          refine cT.out.mono ?_
          clear cT
          rcases r2 with ⟨u, st3⟩ | ⟨x, y⟩
          case no =>
            have hrr : r = .no x y := (Option.some.inj hm.out).symm
            subst hrr
            rintro en w8 hqq
            obtain ⟨q, rfl, h9⟩ := PanF.pre hqq hB7.out
            exact ⟨rfl, q, rfl, h9⟩
          case ok =>
            rintro en w8 ⟨rfl, h8, hB8⟩
            replace hB8 := Lib.hid (hB7.out.trans hB8)
            have hst3 : st3 = st1.on.on := (takeP_ok hr2.symm).2
            have hL3 : Hid (st3.L = st1.L) := Lib.hid (by rw [hst3]; rfl)
            have hm2 := hm.out
            simp only at hm2
            obtain ⟨r3, hr3⟩ : ∃ r3, sumP last wrong 64 st3 = some r3 := by
              rcases hf : sumP last wrong 64 st3 with _ | r3
              · rw [hf] at hm2; cases hm2
              · exact ⟨r3, rfl⟩
            have cP := Lib.hid (cS.out _ st3 w8 r3 h8 hr3)
            rw [hr3] at hm2
            replace hm := Lib.hid hm2
            replace hr3 := Lib.hid hr3
            replace hr2 := Lib.hid hr2
            clear hm2 h8 hB7 hst3
            go_wp2_with fail
            refine cP.out.mono ?_
            clear cP
            rcases r3 with ⟨a, st4⟩ | ⟨x, y⟩
            case no =>
              have hrr : r = .no x y := (Option.some.inj hm.out).symm
              subst hrr
              rintro en w9 hqq
              obtain ⟨q, rfl, h9⟩ := PanF.pre hqq hB8.out
              exact ⟨rfl, q, rfl, h9⟩
            case ok =>
              rintro en w9 ⟨rfl, h9, hB9, ha9, hN9⟩
              replace hB9 := Lib.hid (hB8.out.trans hB9)
              have hL4 : Hid (st4.L = st1.L) := Lib.hid (by rw [sumP_L 64 _ _ _ hr3.out, hL3.out])
              have kl : Blk w9 gl 54 #[.string tk1, .int .i64 0] := h9.last_
              have g1 : w9.cell? ⟨gl, 1, none⟩ = some (.int .i64 0) := kl.cell 1
              have gf1 := kl.frozen 1
              have hP := h9.turn (a' := itBlk gl 54 #[.string tk1, .int .i64 (a : Int)]) (gb_set (gb_refl w9 (some gl)) 1 (.int .i64 (a : Int))) (by have hb := kl.set_ 1 (.int .i64 (a : Int)); exact hb) (fun k hk => .inl hk)
              have hBA : Hid (Below B w (w9.setCell ⟨gl, 1, none⟩ (.int .i64 (a : Int)))) := Lib.hid (hB9.out.setCell (p := ⟨gl, 1, none⟩) hBg _)
              have cT := takeS [59] (by unfold Byt; simp) (by simp) hP
              have e59 : mkS [59] = (⟨#[59]⟩ : ByteArray) := rfl
              rw [e59] at cT
              obtain ⟨r4, hr4⟩ : ∃ r4, r4 = takeP last wrong [59] st4 := ⟨_, rfl⟩
              have hm2 := hm.out
              simp only at hm2
              rw [← hr4] at cT hm2
              replace cT := Lib.hid cT
              replace hm := Lib.hid hm2
              replace hr4 := Lib.hid hr4
              clear hm2 h9 hB9 hB8 kl hP e59 hN9 ha9 hL3
              go_wp2_with fail
              refine cT.out.mono ?_
              clear cT
              rcases r4 with ⟨u4, st5⟩ | ⟨x, y⟩
              case no =>
                have hrr : r = .no x y := (Option.some.inj hm.out).symm
                subst hrr
                rintro en w10 hqq
                obtain ⟨q, rfl, h9⟩ := PanF.pre hqq hBA.out
                exact ⟨rfl, q, rfl, h9⟩
              case ok =>
                rintro en w10 ⟨rfl, h10, hB10⟩
                replace hB10 := Lib.hid (hBA.out.trans hB10)
                have hst5 : st5 = st4.on := (takeP_ok hr4.out.symm).2
                have hL5 : Hid (st5.L = st'.L) := Lib.hid (by rw [hst5]; show st4.L = _; rw [hL4.out, hst1.out]; rfl)
                have hrl5 : Hid (rl = .ok () { st5 with L := st5.L ++ [(st1.tx, a)] }) := Lib.hid (by
                  have e := hrlH.out
                  unfold letP at e
                  rw [← hst1.out] at e
                  rw [if_pos hnmH.out, ← hnam.out, if_neg hmem.out, ← hr2.out] at e
                  simp only at e
                  rw [hr3.out] at e
                  simp only at e
                  rw [← hr4.out] at e
                  exact (Option.some.inj e).symm)
                have hT5 := (hlgH.out () _ hrl5.out)
                have hLn : Hid (({ st5 with L := st5.L ++ [(st1.tx, a)] } : PS).L.length + ({ st5 with L := st5.L ++ [(st1.tx, a)] } : PS).T.length ≤ 16385) := Lib.hid (by
                  have e1 := hLT'.out
                  have e2 : ({ st5 with L := st5.L ++ [(st1.tx, a)] } : PS).L.length = st'.L.length + 1 := by show (st5.L ++ [(st1.tx, a)]).length = _; rw [List.length_append, hL5.out]; rfl
                  have hT5 : ({ st5 with L := st5.L ++ [(st1.tx, a)] } : PS).T.length < st'.T.length := hT5
                  omega)
                have htn : Hid (textP last wrong (sumP last wrong 64) n { st5 with L := st5.L ++ [(st1.tx, a)] } = some r) := Lib.hid hm.out
                have kl : Blk w10 gl 54 #[.string tk1, .int .i64 (a : Int)] := h10.last_
                obtain ⟨nx, vN, vL, vH, D, k1, k2, k3, k4, k5⟩ := h10
                have hlen9 : st5.L.length ≤ 16385 := k3.lets
                obtain ⟨nL, hnL⟩ : ∃ q, q = st5.L.length := ⟨_, rfl⟩
                rw [← hnL] at k1 hlen9
                replace hm := Lib.hid hm.out
                clear hT5 hrlH hlgH hr2 hr3 hrl5 hBA g1 gf1 hst5
                have kb : Blk w10 p 42 (rdC s (st5.pl last) (mkS st5.tx) (st5.T.isEmpty && wrong) nx 0 vN vL vH gm) := k1.1 _ (List.mem_cons_self ..)
                have q10 : ∀ d os, (grow (redrawn w10 d) os).cell? ⟨p, 10, none⟩ = some (.map (some gm)) := cell_regrown (kb.cell 10)
                have q0 : ∀ d os, (grow (redrawn w10 d) os).cell? ⟨gl, 0, none⟩ = some (.string tk1) := cell_regrown (kl.cell 0)
                have hkey := Lib.hid (WideMaps.keyOf_string_mk Tryz.underlying9 (s := tk1) (by rw [htk1.out, mkS_size]; have := hlen.out; unfold maxLen; omega))
                replace k1 := Lib.hid k1
                replace k2 := Lib.hid k2
                replace k3 := Lib.hid k3
                replace hnL := Lib.hid hnL
                clear kb kl
                go_upto_region 11 with fail
                refine wp_region_tail_below 6 (by kernel_rfl) (by kernel_rfl) ?_
                simp only [List.take_succ_cons, List.take_zero, List.drop_succ_cons, List.drop_zero]
                iterate 6 (quiet_step (fail))
                refine wpQuiet_nil ?_
                intro w11 hb11
                have k11 := Lib.hid (k1.out.below hb11)
                have hM11 := Lib.hid (show w11.ownsMap Tryz.prog 9 (plainElem (H := Unit) Tryz.prog 4) gm nL D from k11.out.1 (itMap Tryz.prog 9 (plainElem Tryz.prog 4) gm nL D) (by simp))
                replace hB10 := Lib.hid (hB10.out.trans (hb11.mono (Nat.le_trans (Nat.le_of_lt (Blk.lt (k1.out.1 _ (List.mem_cons_self ..)))) (Nat.le_refl _) |> fun h => Nat.le_trans k4 h)))
                obtain ⟨w12, hrun, hM12, hg12⟩ := hM11.out.update (val := .bool true) lawStr9 Tryz.underlying39 (by unfold maxLen; omega) hkey.out (plainElem_bool Tryz.underlying4 true)
                have k12 := Lib.hid (Sep.five (e' := itMap Tryz.prog 9 (plainElem Tryz.prog 4) gm (nL + 1) (D.put (.string tk1.data.toList) (.lit (.bool true)))) k11.out hg12 hM12 (fun k hk => .inl hk))
                have hB12 := Lib.hid (hB10.out.trans (Below.of_gb hg12 k5 (Nat.le_trans k4 (Nat.le_of_lt (Blk.lt (k11.out.1 _ (List.mem_cons_self ..)))))))
                clear hb11 q10 q0 k1 hM12 hg12 k11 hM11 hB10
                go_upto_region 12 with fail
                have kb : Blk w12 p 42 (rdC s (st5.pl last) (mkS st5.tx) (st5.T.isEmpty && wrong) nx 0 vN vL vH gm) := k12.out.1 _ (List.mem_cons_self ..)
                have kl : Blk w12 gl 54 #[.string tk1, .int .i64 (a : Int)] := k12.out.1 (itBlk gl 54 #[.string tk1, .int .i64 (a : Int)]) (by simp)
                have hrL : w12.ownsRow B 54 2 vL nL (st5.L.flatMap encL) := k12.out.1 (itRow B 54 2 vL nL (st5.L.flatMap encL)) (by simp)
                obtain ⟨AL, cL, rfl, -, -⟩ := own_form hrL
                have a7 : w12.cell? ⟨p, 7, none⟩ = some (.slice AL nL cL) := kb.cell 7
                have f7 : w12.frozen? ⟨p, 7, none⟩ = false := kb.frozen 7
                have g0 : w12.cell? ⟨gl, 0, none⟩ = some (.string tk1) := kl.cell 0
                have g1 : w12.cell? ⟨gl, 1, none⟩ = some (.int .i64 (a : Int)) := kl.cell 1
                have hap := Lib.hid (k12.out.apart (b := itRow B 54 2 (.slice AL nL cL) nL (st5.L.flatMap encL)) (by simp) (k := p) rfl)
                have a7a : (w12.alloc (.cells #[.string tk1, .int .i64 (a : Int)] 54)).cell? ⟨p, 7, none⟩ = some (.slice AL nL cL) := Lib.cell?_alloc_some _ a7
                have a7H := Lib.hid a7
                have f7H := Lib.hid f7
                have hrLH := Lib.hid hrL
                have hBz : B ≤ w12.heap.size := Nat.le_trans k4 (Nat.le_of_lt kb.lt)
                clear kb kl hrL
                go_region_law ((refine step_append_lies _ (by rfl) _ _ _ (by rfl) B 54 j1 (.agg #[.string ⟨#[]⟩, .int .i64 0]) 2 24 Tryz.underlying23 ji jz0 jz1 jz2 rfl (by omega) (.slice AL nL cL) nL (st5.L.flatMap encL) (by rfl) (World.ownsRow.alloc (World.ownsRow.drew hrLH.out) _) ⟨w12.heap.size, 0, none⟩ 1 1 [.string tk1, .int .i64 (a : Int)] (by rfl) rfl (news_blk (Blk.new _ 54 #[.string tk1, .int .i64 (a : Int)])) (let_one tk1 a) (by omega) (by unfold maxLen; omega) (by omega) (by simp; omega) _ rfl ?_; intro ga ca w13 hown13 hgrow13 hat13 hlt13; obtain ⟨z1, z2⟩ := far_cell hgrow13 a7H.out f7H.out hap.out; replace hown13 := Lib.hid hown13; replace hgrow13 := Lib.hid hgrow13; replace hat13 := Lib.hid hat13; clear hlt13))
                all_goals
                  have hS13 : Hid (Sep w13 ([itBlk p 42 (rdC s (st5.pl last) (mkS st5.tx) (st5.T.isEmpty && wrong) nx 0 vN (.slice AL nL cL) vH gm), itRow B 52 5 vN st5.N.length (st5.N.flatMap encN), itRow B 54 2 (.slice (some ⟨ga, 0, none⟩) (nL + 1) ca) (nL + 1) (st5.L.flatMap encL ++ [Value.string tk1, Value.int .i64 (a : Int)]), itRow B 3 1 vH st5.H.length (st5.H.flatMap encH), itMap Tryz.prog 9 (plainElem Tryz.prog 4) gm (nL + 1) (D.put (.string tk1.data.toList) (.lit (.bool true))), itErr 4, itErr 5] ++ (X ++ [itBlk gl 54 #[.string tk1, .int .i64 (a : Int)]]))) := Lib.hid (Sep.three ((k12.out.drewN 1).alloc (.cells #[.string tk1, .int .i64 (a : Int)] 54)) hgrow13.out hown13.out (fun k hk => by
                    have hk : (some ga : Option Nat) = some k := hk
                    rcases hat13.out with h | h
                    · exact .inl (h.trans hk)
                    · refine .inr ?_
                      injection hk with hk
                      rw [← hk, h]
                      exact Nat.le_refl _))
                  have hB13 : Hid (Below B w w13) := Lib.hid ((hB12.out.drew.alloc hBz (.cells #[.string tk1, .int .i64 (a : Int)] 54)).grown hgrow13.out (by show B ≤ (w12.alloc _).heap.size; simp; omega) (fun q hq => (World.ownsRow.lt hrLH.out q hq).1))
                  have hS14 := Lib.hid (Sep.one (a' := itBlk p 42 (rdC s (st5.pl last) (mkS st5.tx) (st5.T.isEmpty && wrong) nx 0 vN (.slice (some ⟨ga, 0, none⟩) (nL + 1) ca) vH gm)) hS13.out (gb_set (gb_refl w13 _) 7 (.slice (some ⟨ga, 0, none⟩) (nL + 1) ca)) (by
                    have hb := Blk.set_ (show Blk w13 p 42 (rdC s (st5.pl last) (mkS st5.tx) (st5.T.isEmpty && wrong) nx 0 vN (.slice AL nL cL) vH gm) from hS13.out.1 _ (List.mem_cons_self ..)) 7 (.slice (some ⟨ga, 0, none⟩) (nL + 1) ca)
                    exact hb) (fun k hk => .inl hk))
                  have hB14 : Hid (Below B w (w13.setCell ⟨p, 7, none⟩ (.slice (some ⟨ga, 0, none⟩) (nL + 1) ca))) := Lib.hid (hB13.out.setCell (p := ⟨p, 7, none⟩) k4 _)
                  have hR14 : Hid (RdS s last wrong B p gm X 0 { st5 with L := st5.L ++ [(st1.tx, a)] } (w13.setCell ⟨p, 7, none⟩ (.slice (some ⟨ga, 0, none⟩) (nL + 1) ca))) := Lib.hid (by
                    refine RdS.pop (a := itBlk gl 54 #[.string tk1, .int .i64 (a : Int)]) ⟨nx, vN, (.slice (some ⟨ga, 0, none⟩) (nL + 1) ca), vH, (D.put (.string tk1.data.toList) (.lit (.bool true))), ?_, ?_, ?_, k4, k5⟩
                    · have e1 : (st5.L ++ [(st1.tx, a)]).length = nL + 1 := by rw [List.length_append, ← hnL.out]; rfl
                      have e2 : (st5.L ++ [(st1.tx, a)]).flatMap encL = st5.L.flatMap encL ++ [.string tk1, .int .i64 (a : Int)] := by
                        rw [List.flatMap_append, List.flatMap_singleton, encL, ← htk1.out]
                      simp only [e1, e2]
                      exact hS14.out
                    · have e3 : ({ st5 with L := st5.L ++ [(st1.tx, a)] } : PS).names = st5.names ++ [st1.tx] := by
                        unfold PS.names
                        rw [List.map_append]; rfl
                      rw [e3, htk1.out]
                      exact k2.out.put hbyt.out
                    · have k3 := k3.out
                      refine ⟨k3.size, k3.lx, k3.toks, k3.last, k3.len, k3.max, k3.hs, ?_, ?_⟩
                      · have h9 : (st5.L ++ [(st1.tx, a)]).length + st5.T.length ≤ 16385 := hLn.out
                        show (st5.L ++ [(st1.tx, a)]).length ≤ 16385
                        omega
                      · intro t ht
                        have ht : t ∈ (st5.L ++ [(st1.tx, a)]).map (·.1) := ht
                        rw [List.map_append] at ht
                        rcases List.mem_append.1 ht with ht | ht
                        · exact k3.nams t ht
                        · rw [List.mem_singleton.1 ht]; exact hbyt.out)
                  clear z1 z2 hown13 hgrow13 hat13 hS13 hB13 hS14 k12 hB12 hrLH a7 a7a f7 a7H f7H g0 g1 hap
                  go_wp2_with fail
                  go_roundg n
                  case measure => omega
                  case rel => exact ⟨n, _, hR14, hB14, htn, hLn, Nat.le_refl _⟩
end
end Go.Proofs.YtnaadajcehfmiaaGreatDoor
