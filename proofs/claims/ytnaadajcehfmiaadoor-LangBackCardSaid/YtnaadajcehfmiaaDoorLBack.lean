/- filigreelaw11.LangBack. -/
import Derived.Test.YtnaadajcehfmiaaDoorLtB
import Derived.Test.YtnaadajcehfmiaaDoorLpE
namespace Go.Proofs.YtnaadajcehfmiaaDoor
open Go.RowKit Go.Sort Go.Maps

theorem encR_raw (n : Nod) : encR n.raw = encN n := rfl
/-- A part's cells. -/
theorem prgM_cell {w W : World} {A : Option Addr} {n c : Nat} {vL : Value} {N : List Nod} {Ls : List RLt} (h : PrgM w (.slice A n c) vL (N.map Nod.raw) Ls) (hb : Below w.heap.size w W) {i : Nat} (hi : i < N.length) :
    ∃ g o, A = some ⟨g, o, none⟩ ∧ n = N.length ∧ ∀ (j : Nat) (u : Value), (encN (N[i]'hi))[j]? = some u → W.cell? ⟨g, o + i * 5 + j, none⟩ = some u := by
  obtain ⟨A', c', e, h1⟩ := h.n
  injection e with e1 e2 e3
  subst e1
  rw [List.length_map] at e2 h1
  obtain ⟨g, o, e4, hg, hc⟩ := h1 (by omega)
  refine ⟨g, o, e4, e2, fun j u hu => ?_⟩
  rw [hb.cell (show (⟨g, o + i * 5 + j, none⟩ : Addr).block < w.heap.size from hg)]
  refine hc i hi j u ?_
  have e0 : (N.map Nod.raw)[i]! = (N[i]'hi).raw := by
    rw [List.getElem!_eq_getElem?_getD, List.getElem?_map, List.getElem?_eq_getElem hi]; rfl
  rw [e0]
  exact hu
theorem prgM_let {w W : World} {A : Option Addr} {n c : Nat} {vN : Value} {N : List RNo} {L : List (List Nat × Nat)} (h : PrgM w vN (.slice A n c) N (L.map rawL)) (hb : Below w.heap.size w W) {i : Nat} (hi : i < L.length) :
    ∃ g o, A = some ⟨g, o, none⟩ ∧ n = L.length ∧ W.cell? ⟨g, o + i * 2 + 1, none⟩ = some (.int .i64 ((L[i]'hi).2 : Int)) := by
  obtain ⟨A', c', e, h1⟩ := h.l
  injection e with e1 e2 e3
  subst e1
  rw [List.length_map] at e2 h1
  obtain ⟨g, o, e4, hg, hc⟩ := h1 (by omega)
  refine ⟨g, o, e4, e2, ?_⟩
  rw [hb.cell (show (⟨g, o + i * 2 + 1, none⟩ : Addr).block < w.heap.size from hg)]
  refine hc i hi 1 _ ?_
  have e0 : (L.map rawL)[i]! = rawL (L[i]'hi) := by
    rw [List.getElem!_eq_getElem?_getD, List.getElem?_map, List.getElem?_eq_getElem hi]; rfl
  rw [e0]
  rfl
theorem Prg.nd {D : List (List Nat × Ex)} {x : Ex} {N : List Nod} {L : List (List Nat × Nat)} {m : Nat} (h : Prg D x N L m) : NdF N := by
  have hF := shape_wf h.shape h.byt.1 h.byt.2
  exact ndF_of (fun i hi => by
    have hw := hF.wn i hi
    exact ⟨⟨hw.k1, hw.k2⟩, hw.a, hw.b⟩)
theorem usU_take {N : List Nod} {U : List Nat} {i : Nat} (hi : i < N.length) : usU U (N.take (i + 1)) = stU (usU U (N.take i)) (N[i]'hi) := by
  rw [List.take_add_one, List.getElem?_eq_getElem hi]
  show usU U (N.take i ++ [N[i]]) = _
  rw [usU_app]; rfl
theorem ltU_take {L : List (List Nat × Nat)} {U : List Nat} {i : Nat} (hi : i < L.length) : ltU U (L.take (i + 1)) = bmp (ltU U (L.take i)) (L[i]'hi).2 := by
  rw [List.take_add_one, List.getElem?_eq_getElem hi]
  show ltU U (L.take i ++ [L[i]]) = _
  unfold ltU
  rw [List.foldl_append]; rfl
theorem ihs_bmp {W : World} {g k : Nat} {U : List Nat} (h : Blk W g 3 (ihs U)) : Blk (W.setCell ⟨g, k, none⟩ (.int .i64 ((U[k]! : Int) + 1))) g 3 (ihs (bmp U k)) := by
  have := ihs_set h k (U[k]! + 1)
  exact this
theorem ihs_bang {W : World} {g k : Nat} {U : List Nat} (h : Blk W g 3 (ihs U)) (hk : k < U.length) : W.cell? ⟨g, k, none⟩ = some (.int .i64 (U[k]! : Int)) :=
  ihs_cell h (by rw [List.getElem?_eq_getElem hk, getElem!_pos U k hk])
theorem zeros_le (n : Nat) : ∀ j : Nat, (List.replicate n 0)[j]! ≤ 0 := fun j => by
  rw [List.getElem!_eq_getElem?_getD, List.getElem?_replicate]
  split <;> exact Nat.le_refl _
theorem i_eq {a b : Nat} (h : a = b) : ((a : Int) == (b : Int)) = true := by rw [h]; simp
theorem i_ne {a b : Nat} (h : a ≠ b) : ((a : Int) == (b : Int)) = false := by rw [beq_eq_false_iff_ne]; omega

/-- What is written are bytes. -/
theorem writeW_byt {N : List RNo} {Ls : List RLt} {m : Int} (hF : ShF N Ls m) {ti : Bool} {t : List Nat} (h : writeW N Ls m.toNat ti = some t) : Byt t := by
  have hb2 : ∀ {a b : List Nat}, Byt a → Byt b → Byt (a ++ b) := fun ha hb c hc => by
    rcases List.mem_append.1 hc with hc | hc
    · exact ha c hc
    · exact hb c hc
  have hsg : ∀ k, Byt (sgnW ti k) := fun k => by
    unfold sgnW
    (repeat' split) <;> (intro c hc; simp at hc; omega)
  have hone : ∀ c, c < 256 → Byt [c] := fun c hc b hb => by rw [List.mem_singleton.1 hb]; exact hc
  have hroot : ∀ i, i < N.length → ∀ pw : Nat → Nat → List Nat → List Nat, (∀ k, k < i → ∀ l b, Byt b → Byt (pw k l b)) → ∀ b, Byt b → Byt (kindW pw ti N[i]! b) := by
    intro i hi pw hpw b hb
    have hw := hF.wn i hi
    unfold kindW
    by_cases h2 : N[i]!.kind = 2
    · rw [if_pos h2]; exact hb2 hb (hone _ (by omega))
    · rw [if_neg h2]
      by_cases h3 : N[i]!.kind = 3
      · rw [if_pos h3]; exact hb2 hb (hone _ (by omega))
      · rw [if_neg h3]
        by_cases h5 : N[i]!.kind = 5
        · obtain ⟨ka, e1, e2⟩ := hw.a (by rw [h5]; decide)
          rw [if_pos h5, e1]
          exact hpw _ e2 _ _ (hb2 hb (hone _ (by omega)))
        · rw [if_neg h5]
          by_cases h10 : N[i]!.kind = 10
          · obtain ⟨ka, e1, e2⟩ := hw.a (by rw [h10]; decide)
            obtain ⟨kn, e3, e4⟩ := hw.n h10
            rw [if_pos h10, e1, e3]
            exact hb2 (hb2 (hpw _ e2 _ _ hb) (hone _ (by omega))) (byt_digL (by show kn < 100; omega))
          · rw [if_neg h10]
            by_cases h67 : N[i]!.kind = 6 ∨ N[i]!.kind = 7
            · have hbk : bndK N[i]!.kind < 3 := by unfold bndK; rw [if_pos h67]; omega
              obtain ⟨ka, e1, e2⟩ := hw.a (by omega)
              obtain ⟨kb, e3, e4⟩ := hw.b hbk
              rw [if_pos h67]
              unfold pairW
              rw [e1, e3]
              exact hpw _ e4 _ _ (hb2 (hpw _ e2 _ _ hb) (hsg _))
            · rw [if_neg h67]
              by_cases h89 : N[i]!.kind = 8 ∨ N[i]!.kind = 9
              · have hbk : bndK N[i]!.kind < 3 := by unfold bndK; rw [if_neg h67, if_pos h89]; omega
                obtain ⟨ka, e1, e2⟩ := hw.a (by omega)
                obtain ⟨kb, e3, e4⟩ := hw.b hbk
                rw [if_pos h89]
                unfold pairW
                rw [e1, e3]
                exact hpw _ e4 _ _ (hb2 (hpw _ e2 _ _ hb) (hsg _))
              · rw [if_neg h89]; exact hb2 hb hw.byt
  have hpart : ∀ f, ∀ i, i < N.length → ∀ l b, Byt b → Byt (partW N ti f i l b) := by
    intro f
    induction f with
    | zero => intro i _ l b hb; exact hb
    | succ f ih =>
      intro i hi l b hb
      rw [partW]
      split
      · exact hb
      · split
        · exact hb2 (hroot i hi _ (fun k hk => ih k (by omega)) _ (hb2 hb (hone _ (by omega)))) (hone _ (by omega))
        · exact hroot i hi _ (fun k hk => ih k (by omega)) _ hb
  have hlets : ∀ f, ∀ (Ms : List RLt), (∀ l, l ∈ Ms → Byt l.name ∧ l.at_.toNat < N.length) → ∀ b c, Byt b → letsW (partW N ti f) ti Ms b = some c → Byt c := by
    intro f Ms
    induction Ms with
    | nil => intro _ b c hb h; injection h with h; rw [← h]; exact hb
    | cons l Ms ih =>
      intro hM b c hb h
      rw [letsW] at h
      split at h
      · cases h
      · have hl := hM l (by simp)
        refine ih (fun k hk => hM k (by simp [hk])) _ _ ?_ h
        refine hb2 (hpart f _ hl.2 1 _ (hb2 hb (hb2 (hb2 ?_ hl.1) ?_))) ?_
        · intro c hc; simp at hc; omega
        · unfold isW; split <;> (intro c hc; simp at hc; omega)
        · unfold enW; split <;> (intro c hc; simp at hc; omega)
  obtain ⟨k, hk1, hk2⟩ := hF.m
  unfold writeW at h
  rcases hL : letsW (partW N ti N.length) ti Ls [] with _ | b
  · rw [hL] at h; cases h
  · rw [hL] at h
    have hb := hlets N.length Ls (fun l hl => by
      obtain ⟨i, hi, e⟩ := List.getElem_of_mem hl
      have hw := hF.wl i hi
      rw [getElem!_pos Ls i hi, e] at hw
      obtain ⟨a, e1, e2⟩ := hw.at_
      exact ⟨hw.byt, by rw [e1]; exact e2⟩) [] b (fun c hc => (by cases hc)) hL
    have h : (if (partW N ti N.length m.toNat 1 b).length ≤ 16384 then some (partW N ti N.length m.toNat 1 b) else none) = some t := h
    split at h
    · injection h with h
      rw [← h]
      exact hpart _ _ (by rw [hk1]; exact hk2) 1 _ hb
    · cases h
theorem bytD_byt (ti : Bool) {D : List (List Nat × Ex)} {x : Ex} {N : List Nod} {L : List (List Nat × Nat)} {m : Nat} (h : Prg D x N L m) : Byt (bytD ti x D) := by
  obtain ⟨ps, h1, h2, h3⟩ := OkD.pcs ti D [] h.ok [] (fun b hb => (by cases hb))
  rw [List.nil_append] at h2
  rw [← h2]
  have key : ∀ (ps : Pcs), PcOk [] ps → Byt (catP ps) := by
    intro ps
    induction ps with
    | nil => intro _ b hb; cases hb
    | cons p ps ih =>
      intro hk b hb
      obtain ⟨k1, k2, k3, k4⟩ := hk
      have hb : b ∈ p.1 ++ (p.2 ++ catP ps) := hb
      rcases List.mem_append.1 hb with hb | hb
      · have := k1 b hb
        unfold blkB at this
        simp [or_assoc] at this
        omega
      · rcases List.mem_append.1 hb with hb | hb
        · exact k2.2.2 b hb
        · exact ih k4 b hb
  exact key ps h1
theorem ihs_no {W : World} {gu j : Nat} {V : List Nat} {v : Value} (h : Blk W gu 3 (ihs V)) (hc : W.cell? ⟨gu, j, none⟩ = some v) : ∃ n : Nat, v = .int .i64 (n : Int) := by
  rw [h.cell] at hc
  unfold ihs at hc
  rw [List.getElem?_toArray, List.getElem?_map] at hc
  obtain ⟨n, -, e⟩ := Option.map_eq_some_iff.1 hc
  exact ⟨n, e.symm⟩
theorem but_cell {w W : World} {gu : Nat} (hb : But (fun k => k = gu) w W) {g j : Nat} {v : Value} (hg : g ≠ gu) (hl : g < w.heap.size) (h : w.cell? ⟨g, j, none⟩ = some v) : W.cell? ⟨g, j, none⟩ = some v := by
  unfold World.cell? at h ⊢
  rw [hb.block g hl hg]
  exact h
/-- The parts of a text are not what is counted in. -/
theorem prgBut {w W : World} {A : Option Addr} {n c gu : Nat} {vL : Value} {N : List Nod} {Ls : List RLt} {V : List Nat} (h : PrgM w (.slice A n c) vL (N.map Nod.raw) Ls) (hb : But (fun k => k = gu) w W) (hg : Blk w gu 3 (ihs V)) {i : Nat} (hi : i < N.length) :
    ∃ g o, A = some ⟨g, o, none⟩ ∧ n = N.length ∧ ∀ (j : Nat) (u : Value), (encN (N[i]'hi))[j]? = some u → W.cell? ⟨g, o + i * 5 + j, none⟩ = some u := by
  obtain ⟨g, o, e1, e2, hc⟩ := prgM_cell h (Below.refl _ w) hi
  have hne : g ≠ gu := fun e => by
    subst e
    obtain ⟨n, e⟩ := ihs_no hg (hc 0 _ rfl)
    cases e
  refine ⟨g, o, e1, e2, fun j u hu => ?_⟩
  have h1 := hc j u hu
  exact but_cell hb hne (block_lt_of_cell h1) h1
theorem prgBut2 {w W : World} {A : Option Addr} {n c gu : Nat} {vN : Value} {N : List RNo} {L : List (List Nat × Nat)} {V : List Nat} (h : PrgM w vN (.slice A n c) N (L.map rawL)) (hb : But (fun k => k = gu) w W) (hg : Blk w gu 3 (ihs V)) {i : Nat} (hi : i < L.length) :
    ∃ g o, A = some ⟨g, o, none⟩ ∧ n = L.length ∧ W.cell? ⟨g, o + i * 2 + 1, none⟩ = some (.int .i64 ((L[i]'hi).2 : Int)) := by
  obtain ⟨A', c', e, h1⟩ := id h.l
  injection e with e1 e2 e3
  subst e1
  rw [List.length_map] at e2 h1
  obtain ⟨g, o, e4, hgl, hc⟩ := h1 (by omega)
  have e0 : (L.map rawL)[i]! = rawL (L[i]'hi) := by
    rw [List.getElem!_eq_getElem?_getD, List.getElem?_map, List.getElem?_eq_getElem hi]; rfl
  have hne : g ≠ gu := fun e => by
    subst e
    obtain ⟨n, e⟩ := ihs_no hg (hc i hi 0 _ (by rw [e0]; rfl))
    cases e
  exact ⟨g, o, e4, e2, but_cell hb hne hgl (hc i hi 1 _ (by rw [e0]; rfl))⟩
set_option maxRecDepth 100000 in
set_option maxHeartbeats 16000000 in
/-- LangBack -/
theorem langBack_any {s : ByteArray} {N : List RNo} {Ls : List RLt} {vN vL : Value} {m : Int} {w : World} (hs : s.size ≤ 140737488351232) (hP : PrgM w vN vL N Ls) (hE : EnvL w) :
    Calls Tryd.prog 3 #[.string s, .agg #[vN, vL, .int .i64 m]] w (RetVal (.bool true) w) := by
  obtain ⟨AN, cN, hvN, -⟩ := id hP.n
  obtain ⟨AL, cL, hvL, -⟩ := id hP.l
  obtain ⟨nn, hnn⟩ : ∃ n, n = N.length := ⟨_, rfl⟩
  obtain ⟨nl, hnl⟩ : ∃ n, n = Ls.length := ⟨_, rfl⟩
  rw [← hnn] at hvN
  rw [← hnl] at hvL
  subst hvN hvL
  replace hnn := Lib.hid hnn
  replace hnl := Lib.hid hnl
  replace hs := Lib.hid hs
  have kp := Lib.hid (Blk.new w 25 #[.slice AN nn cN, .slice AL nl cL, .int .i64 m])
  have hb1 := Lib.hid ((Below.refl _ w).alloc (Nat.le_refl _) (.cells #[.slice AN nn cN, .slice AL nl cL, .int .i64 m] 25))
  replace hP := Lib.hid hP
  have hE0 := Lib.hid hE
  replace hE := Lib.hid hE
  go_enter Tryd.func3, Tryd.ntmps3
  go_upto_region 1 with fail
  generalize hW : w.alloc (.cells #[.slice AN nn cN, .slice AL nl cL, .int .i64 m] 25) = w1 at hb1 kp ⊢
  replace hW := Lib.hid hW
  have c0 : w1.cell? ⟨w.heap.size, 0, none⟩ = some (.slice AN nn cN) := kp.out.cell 0
  have c1 : w1.cell? ⟨w.heap.size, 1, none⟩ = some (.slice AL nl cL) := kp.out.cell 1
  have c2 : w1.cell? ⟨w.heap.size, 2, none⟩ = some (.int .i64 m) := kp.out.cell 2
  have hP1 := Lib.hid (hP.out.below hb1.out)
  have hE1 := Lib.hid (hE.out.below hb1.out)
  go_wp2_with fail
  refine (lPrint_any hP1.out hE1.out).mono ?_
  rintro en w2 ⟨rfl, hb⟩
  have hb2 := Lib.hid (hb1.out.trans (hb.mono hb1.out.size))
  replace kp := Lib.hid (kp.out.below hb)
  have hP2 := Lib.hid (hP1.out.below hb)
  have hE2 := Lib.hid (hE1.out.below hb)
  clear hP1 hE1 hb c0 c1 c2 hP hE hb1
  obtain ⟨pv, hpv⟩ : ∃ p, p = printV N Ls m := ⟨_, rfl⟩
  rw [← hpv]
  replace hpv := Lib.hid hpv
  go_upto_if 26 with fail
  go_cut [5] from 5 to 49 (fun s5 wx => Hid (Below w.heap.size w wx))
  case first =>
    have c0 : w2.cell? ⟨w.heap.size, 0, none⟩ = some (.slice AN nn cN) := kp.out.cell 0
    have c1 : w2.cell? ⟨w.heap.size, 1, none⟩ = some (.slice AL nl cL) := kp.out.cell 1
    have c2 : w2.cell? ⟨w.heap.size, 2, none⟩ = some (.int .i64 m) := kp.out.cell 2
    have cC := Lib.hid (lgCheck_any (m := m) hP2.out hE2.out)
    have hn0 : mkS ([] : List Nat) = ⟨#[]⟩ := rfl
    by_cases hr : readV N Ls m = true
    case neg =>
      have hp : pv = ([], 115) := by rw [hpv.out, printV, if_neg hr]
      subst hp
      rw [if_neg hr] at cC
      rw [hn0]
      replace hr := Lib.hid hr
      clear hn0
      go_wp2_with fail
      refine cC.out.mono ?_
      rintro en w3 ⟨rfl, hb⟩
      have hb3 := Lib.hid (hb2.out.trans (hb.mono hb2.out.size))
      clear hb c0 c1 c2 cC
      go_wp2_with fail
      go_meet
      case rel => exact hb3
    case pos =>
      rw [if_pos hr] at cC
      obtain ⟨D, x, N', L', k, hG, rfl, rfl, rfl⟩ := read_prg hP2.out.bn hP2.out.bl (fun t ht => by
        have hsh : shapeW N Ls m = true := by
          unfold readV at hr
          split at hr
          · rename_i h; exact h
          · cases hr
        exact writeW_byt (shape_wf hsh hP2.out.bn hP2.out.bl) ht) hr
      replace hr := Lib.hid hr
      by_cases hl : (bytD false x D).length ≤ 16384
      case neg =>
        have hp : pv = ([], 4) := by rw [hpv.out, hG.print, if_neg hl]
        subst hp
        rw [hn0]
        replace hG := Lib.hid hG
        replace hl := Lib.hid hl
        clear hn0
        go_wp2_with fail
        refine cC.out.mono ?_
        rintro en w3 ⟨rfl, hb⟩
        have hb3 := Lib.hid (hb2.out.trans (hb.mono hb2.out.size))
        clear hb c0 c1 c2 cC
        go_wp2_with fail
        go_meet
        case rel => exact hb3
      case pos =>
        have hp : pv = (bytD false x D, 0) := by rw [hpv.out, hG.print, if_pos hl]
        subst hp
        obtain ⟨st, hst, hstN, hstL⟩ := hG.parse false hl
        have hBy := bytD_byt false hG
        have cP := Lib.hid (lParse_any (mkS (bytD false x D)) w2 (by rw [mkS_size]; omega) hE2.out.e1 hE2.out.e2 (.ok k st) (by rw [sl_mkS hBy, ← hst]; exact parseF_ok _))
        obtain ⟨tt, htt⟩ : ∃ t, t = bytD false x D := ⟨_, rfl⟩
        rw [← htt] at cP ⊢
        have hGs : Prg D x st.N st.L k := by rw [hstN, hstL]; exact hG
        have hsame : sameW (st.N.map Nod.raw) (N'.map Nod.raw) (st.L.map rawL) (L'.map rawL) (k : Int) (k : Int) = true := by rw [hstN, hstL]; simp [sameW]
        replace hG := Lib.hid hG
        replace hGs := Lib.hid hGs
        replace hsame := Lib.hid hsame
        replace hl := Lib.hid hl
        replace htt := Lib.hid htt
        replace hst := Lib.hid hst
        replace hstN := Lib.hid hstN
        replace hstL := Lib.hid hstL
        replace hBy := Lib.hid hBy
        clear hn0 cC
        go_wp2_with fail
        refine Calls.mono cP.out ?_
        rintro en w3 ⟨⟨v, rfl, hW3⟩, hb⟩
        clear cP
        obtain ⟨AQ, cQ, AM, cM, rfl, hQ⟩ := prgM_own hW3 hGs.out
        obtain ⟨nq, hnq⟩ : ∃ n, n = st.N.length := ⟨_, rfl⟩
        obtain ⟨lq, hlq⟩ : ∃ n, n = st.L.length := ⟨_, rfl⟩
        rw [← hnq, ← hlq] at hQ ⊢
        have ba := (Below.refl w3.heap.size w3).alloc (Nat.le_refl _) (.cells #[.slice AQ nq cQ, .slice AM lq cM, .int .i64 (k : Int)] 25)
        have hb4 := Lib.hid ((hb2.out.trans (hb.mono hb2.out.size)).trans (ba.mono (Nat.le_trans hb2.out.size hb.size)))
        have hP4 := Lib.hid ((hP2.out.below hb).below ba)
        have hQ4 := Lib.hid (hQ.below ba)
        have kp4 := Lib.hid (Blk.below (kp.out.below hb) ba)
        have kq4 := Lib.hid (Blk.new w3 25 #[.slice AQ nq cQ, .slice AM lq cM, .int .i64 (k : Int)])
        replace hnq := Lib.hid hnq
        replace hlq := Lib.hid hlq
        clear hb hW3 hQ ba c0 c1 c2
        go_upto_region 4 with fail
        generalize hWa : w3.alloc (.cells #[.slice AQ nq cQ, .slice AM lq cM, .int .i64 (k : Int)] 25) = w4 at hb4 hP4 hQ4 kp4 kq4 ⊢
        generalize hqa : w3.heap.size = bq at kq4 ⊢
        replace hWa := Lib.hid hWa
        replace hqa := Lib.hid hqa
        have c0 : w4.cell? ⟨w.heap.size, 0, none⟩ = some (.slice AN nn cN) := kp4.out.cell 0
        have c1 : w4.cell? ⟨w.heap.size, 1, none⟩ = some (.slice AL nl cL) := kp4.out.cell 1
        have c2 : w4.cell? ⟨w.heap.size, 2, none⟩ = some (.int .i64 (k : Int)) := kp4.out.cell 2
        have d0 : w4.cell? ⟨bq, 0, none⟩ = some (.slice AQ nq cQ) := kq4.out.cell 0
        have d1 : w4.cell? ⟨bq, 1, none⟩ = some (.slice AM lq cM) := kq4.out.cell 1
        have d2 : w4.cell? ⟨bq, 2, none⟩ = some (.int .i64 (k : Int)) := kq4.out.cell 2
        go_wp2_with fail
        refine (lSame_any hQ4.out.n hQ4.out.l hP4.out.n hP4.out.l hQ4.out.bn hP4.out.bn hQ4.out.bl hP4.out.bl hQ4.out.zn hP4.out.zn hQ4.out.zl hP4.out.zl).mono ?_
        rintro en w5 ⟨rfl, hb⟩
        have hb5 := Lib.hid (hb4.out.trans (hb.mono hb4.out.size))
        rw [hsame.out]
        clear hb c0 c1 c2 d0 d1 d2
        go_wp2_with fail
        go_meet
        case rel => exact hb5
  clear hb2 kp hP2 hE2 hpv pv
  have hEc := Lib.hid (hE0.out.below hcut.out)
  obtain ⟨pr, hpr⟩ : ∃ r, r = parseF (sl s) := ⟨_, rfl⟩
  have cP := Lib.hid (lParse_any s wc (by have := hs.out; omega) hEc.out.e1 hEc.out.e2 pr (by rw [hpr]; exact parseF_ok _))
  have hprg : Hid (∀ k' st, pr = .ok k' st → ∃ D x, Prg D x st.N st.L k') := Lib.hid (fun k' st h => parseF_prg (byt_sl s) (hpr.symm.trans h))
  replace hpr := Lib.hid hpr
  have hb2 := hcut
  clear hcut
  go_wp2_with fail
  refine Calls.mono cP.out ?_
  intro en w3 hret
  clear cP
  rcases pr with ⟨k, st⟩ | ⟨a, c⟩
  case no =>
    obtain ⟨⟨q, rfl, hq1, hq2⟩, hb⟩ := hret
    have hb4 := Lib.hid (hb2.out.trans (hb.mono hb2.out.size))
    have hb5 := Lib.hid (hb4.out.alloc hb4.out.size (.cells #[.slice none 0 0, .slice none 0 0, .int .i64 0] 25))
    clear hb hq1 hq2
    go_upto_region 9 with fail
    generalize hWa : w3.alloc (.cells #[.slice none 0 0, .slice none 0 0, .int .i64 0] 25) = w5 at hb5 ⊢
    replace hWa := Lib.hid hWa
    have cA := Lib.hid (lgawake_any (hE0.out.below hb5.out))
    go_wp2_with fail
    refine Calls.mono cA.out ?_
    rintro en w6 ⟨rfl, hb⟩
    have hb6 := Lib.hid (hb5.out.trans (hb.mono hb5.out.size))
    clear hb cA
    go_wp2_with fail
    go_ret
    first | exact ⟨rfl, hb6.out⟩ | exact hb6.out
  case ok =>
    obtain ⟨⟨v, rfl, hW3⟩, hb⟩ := hret
    obtain ⟨D, x, hG⟩ := hprg.out k st rfl
    obtain ⟨AQ, cQ, AM, cM, rfl, hQ⟩ := prgM_own hW3 hG
    obtain ⟨N', hN'⟩ : ∃ n, n = st.N := ⟨_, rfl⟩
    obtain ⟨L', hL'⟩ : ∃ n, n = st.L := ⟨_, rfl⟩
    rw [← hN', ← hL'] at hQ hG ⊢
    obtain ⟨nq, hnq⟩ : ∃ n, n = N'.length := ⟨_, rfl⟩
    obtain ⟨lq, hlq⟩ : ∃ n, n = L'.length := ⟨_, rfl⟩
    rw [← hnq, ← hlq] at hQ ⊢
    have ba := (Below.refl w3.heap.size w3).alloc (Nat.le_refl _) (.cells #[.slice AQ nq cQ, .slice AM lq cM, .int .i64 (k : Int)] 25)
    have hb4 := Lib.hid ((hb2.out.trans (hb.mono hb2.out.size)).trans (ba.mono (Nat.le_trans hb2.out.size hb.size)))
    have hQ4 := Lib.hid (hQ.below ba)
    have kq4 := Lib.hid (Blk.new w3 25 #[.slice AQ nq cQ, .slice AM lq cM, .int .i64 (k : Int)])
    have hbq : Hid (w.heap.size ≤ w3.heap.size) := Lib.hid (Nat.le_trans hb2.out.size hb.size)
    replace hnq := Lib.hid hnq
    replace hlq := Lib.hid hlq
    replace hN' := Lib.hid hN'
    replace hL' := Lib.hid hL'
    replace hG := Lib.hid hG
    clear hb hW3 hQ ba hprg hb2
    go_upto_region 11 with fail
    generalize hWa : w3.alloc (.cells #[.slice AQ nq cQ, .slice AM lq cM, .int .i64 (k : Int)] 25) = w4 at hb4 hQ4 kq4 ⊢
    generalize hqa : w3.heap.size = bq at kq4 hbq ⊢
    replace hWa := Lib.hid hWa
    replace hqa := Lib.hid hqa
    have hE4 := Lib.hid (hE0.out.below hb4.out)
    have d0 : w4.cell? ⟨bq, 0, none⟩ = some (.slice AQ nq cQ) := kq4.out.cell 0
    have d1 : w4.cell? ⟨bq, 1, none⟩ = some (.slice AM lq cM) := kq4.out.cell 1
    have d2 : w4.cell? ⟨bq, 2, none⟩ = some (.int .i64 (k : Int)) := kq4.out.cell 2
    go_wp2_with fail
    refine (lPrint_any hQ4.out hE4.out).mono ?_
    rintro en w5 ⟨rfl, hb⟩
    have hb5 := Lib.hid (hb4.out.trans (hb.mono hb4.out.size))
    have hQ5 := Lib.hid (hQ4.out.below hb)
    have hE5 := Lib.hid (hE4.out.below hb)
    have kq5 := Lib.hid (kq4.out.below hb)
    rw [hG.out.print]
    clear hb d0 d1 d2 hQ4 hE4 kq4 hb4
    have d0 : w5.cell? ⟨bq, 0, none⟩ = some (.slice AQ nq cQ) := kq5.out.cell 0
    have d1 : w5.cell? ⟨bq, 1, none⟩ = some (.slice AM lq cM) := kq5.out.cell 1
    have d2 : w5.cell? ⟨bq, 2, none⟩ = some (.int .i64 (k : Int)) := kq5.out.cell 2
    have cC := Lib.hid (lgCheck_any (m := (k : Int)) hQ5.out hE5.out)
    rw [hG.out.read, if_pos rfl] at cC
    obtain ⟨pv, hpv⟩ : ∃ p, p = (if (bytD false x D).length ≤ 16384 then (bytD false x D, 0) else ([], 4)) := ⟨_, rfl⟩
    rw [← hpv]
    have hp2 : pv.2 = 0 ∨ pv.2 = 4 := by
      rw [hpv]
      split
      · exact .inl rfl
      · exact .inr rfl
    obtain ⟨pc, hpc⟩ : ∃ c, c = pv.2 := ⟨_, rfl⟩
    rw [← hpc] at hp2 ⊢
    replace hpv := Lib.hid hpv
    replace hpc := Lib.hid hpc
    go_upto_region 12 with fail
    go_cut [73] from 63 to 73 (fun s73 wx => s73 = .bool false ∧ Hid (Below w5.heap.size w5 wx))
    case first =>
      rcases hp2 with h0 | h4
      case inl =>
        subst h0
        go_wp2_with fail
        refine cC.out.mono ?_
        rintro en w6 ⟨rfl, hb⟩
        replace hb := Lib.hid hb
        clear d0 d1 d2 cC
        go_wp2_with fail
        go_meet
        case rel => exact ⟨rfl, hb⟩
      case inr =>
        subst h4
        go_wp2_with fail
        refine cC.out.mono ?_
        rintro en w6 ⟨rfl, hb⟩
        replace hb := Lib.hid hb
        clear d0 d1 d2 cC
        go_wp2_with fail
        go_meet
        case rel => exact ⟨rfl, hb⟩
    case rest =>
      obtain ⟨rfl, hb⟩ := hcut
      generalize hwc : wc = w6 at hb ⊢
      clear hwc
      have hb6 := Lib.hid (hb5.out.trans (hb.out.mono hb5.out.size))
      have hQ6 := Lib.hid (hQ5.out.below hb.out)
      have hE6 := Lib.hid (hE5.out.below hb.out)
      have kq6 := Lib.hid (kq5.out.below hb.out)
      replace hp2 := Lib.hid hp2
      clear hb d0 d1 d2 hQ5 hE5 kq5 hb5 cC
      go_upto_if 75 with fail
      go_cut [9] from 5 to 102 (fun s9 wx => s9 = .pointer (some ⟨bq, 0, none⟩) ∧ Hid (Below w.heap.size w wx) ∧ Hid (Below w6.heap.size w6 wx))
      case first =>
        rcases hp2.out with h0 | h4
        case inr =>
          subst h4
          go_wp2_with fail
          go_meet
          case rel => exact ⟨rfl, hb6, Lib.hid (Below.refl _ _)⟩
        case inl =>
          subst h0
          have hl : (bytD false x D).length ≤ 16384 := by
            by_cases hl : (bytD false x D).length ≤ 16384
            · exact hl
            · have e := hpv.out
              rw [if_neg hl] at e
              have e2 := hpc.out
              rw [e] at e2
              cases e2
          have hpv1 : pv.1 = bytD false x D := by rw [hpv.out, if_pos hl]
          rw [hpv1]
          obtain ⟨st2, hst, hstN, hstL⟩ := hG.out.parse false hl
          have hBy := bytD_byt false hG.out
          have cP := Lib.hid (lParse_any (mkS (bytD false x D)) w6 (by rw [mkS_size]; omega) hE6.out.e1 hE6.out.e2 (.ok k st2) (by rw [sl_mkS hBy, ← hst]; exact parseF_ok _))
          have hGs : Prg D x st2.N st2.L k := by rw [hstN, hstL]; exact hG.out
          have hprn := hGs.print
          rw [if_pos hl] at hprn
          obtain ⟨tt, htt⟩ : ∃ t, t = bytD false x D := ⟨_, rfl⟩
          rw [← htt] at cP hprn ⊢
          have hsame : sameW (st2.N.map Nod.raw) (N'.map Nod.raw) (st2.L.map rawL) (L'.map rawL) (k : Int) (k : Int) = true := by rw [hstN, hstL]; simp [sameW]
          replace hGs := Lib.hid hGs
          replace hsame := Lib.hid hsame
          replace hl := Lib.hid hl
          replace htt := Lib.hid htt
          replace hst := Lib.hid hst
          replace hstN := Lib.hid hstN
          replace hstL := Lib.hid hstL
          replace hBy := Lib.hid hBy
          replace hprn := Lib.hid hprn
          replace hpv1 := Lib.hid hpv1
          go_wp2_with fail
          refine Calls.mono cP.out ?_
          rintro en w7 ⟨⟨v, rfl, hW3⟩, hb⟩
          clear cP
          obtain ⟨AR, cR, AS, cS, rfl, hR⟩ := prgM_own hW3 hGs.out
          obtain ⟨nr, hnr⟩ : ∃ n, n = st2.N.length := ⟨_, rfl⟩
          obtain ⟨lr, hlr⟩ : ∃ n, n = st2.L.length := ⟨_, rfl⟩
          rw [← hnr, ← hlr] at hR ⊢
          have ba := (Below.refl w7.heap.size w7).alloc (Nat.le_refl _) (.cells #[.slice AR nr cR, .slice AS lr cS, .int .i64 (k : Int)] 25)
          have hb8 := Lib.hid (hb.trans (ba.mono hb.size))
          have hR8 := Lib.hid (hR.below ba)
          have kr8 := Lib.hid (Blk.new w7 25 #[.slice AR nr cR, .slice AS lr cS, .int .i64 (k : Int)])
          replace hnr := Lib.hid hnr
          replace hlr := Lib.hid hlr
          clear hb hW3 hR ba
          go_upto_region 16 with fail
          generalize hWa : w7.alloc (.cells #[.slice AR nr cR, .slice AS lr cS, .int .i64 (k : Int)] 25) = w8 at hb8 hR8 kr8 ⊢
          generalize hqa : w7.heap.size = br at kr8 ⊢
          replace hWa := Lib.hid hWa
          replace hqa := Lib.hid hqa
          have hE8 := Lib.hid (hE6.out.below hb8.out)
          have d0 : w8.cell? ⟨br, 0, none⟩ = some (.slice AR nr cR) := kr8.out.cell 0
          have d1 : w8.cell? ⟨br, 1, none⟩ = some (.slice AS lr cS) := kr8.out.cell 1
          have d2 : w8.cell? ⟨br, 2, none⟩ = some (.int .i64 (k : Int)) := kr8.out.cell 2
          go_wp2_with fail
          refine (lPrint_any hR8.out hE8.out).mono ?_
          rintro en w9 ⟨rfl, hb⟩
          have hb9 := Lib.hid (hb8.out.trans (hb.mono hb8.out.size))
          have hR9 := Lib.hid (hR8.out.below hb)
          have kr9 := Lib.hid (kr8.out.below hb)
          have hQ9 := Lib.hid (hQ6.out.below hb9.out)
          have kq9 := Lib.hid (kq6.out.below hb9.out)
          rw [hprn.out]
          clear hb d0 d1 d2 hR8 hE8 kr8 hb8
          have d0 : w9.cell? ⟨br, 0, none⟩ = some (.slice AR nr cR) := kr9.out.cell 0
          have d1 : w9.cell? ⟨br, 1, none⟩ = some (.slice AS lr cS) := kr9.out.cell 1
          have d2 : w9.cell? ⟨br, 2, none⟩ = some (.int .i64 (k : Int)) := kr9.out.cell 2
          have c0 : w9.cell? ⟨bq, 0, none⟩ = some (.slice AQ nq cQ) := kq9.out.cell 0
          have c1 : w9.cell? ⟨bq, 1, none⟩ = some (.slice AM lq cM) := kq9.out.cell 1
          have c2 : w9.cell? ⟨bq, 2, none⟩ = some (.int .i64 (k : Int)) := kq9.out.cell 2
          go_wp2_with fail
          refine (lSame_any hR9.out.n hR9.out.l hQ9.out.n hQ9.out.l hR9.out.bn hQ9.out.bn hR9.out.bl hQ9.out.bl hR9.out.zn hQ9.out.zn hR9.out.zl hQ9.out.zl).mono ?_
          rintro en w10 ⟨rfl, hb⟩
          have hb10 := Lib.hid (hb9.out.trans (hb.mono hb9.out.size))
          rw [hsame.out]
          clear hb c0 c1 c2 d0 d1 d2
          go_wp2_with fail
          go_meet
          case rel => exact ⟨rfl, Lib.hid (hb6.out.trans (hb10.out.mono hb6.out.size)), hb10⟩
      obtain ⟨rfl, hbc, hbd⟩ := hcut
      have hQc := Lib.hid (hQ6.out.below hbd.out)
      have kqc := Lib.hid (kq6.out.below hbd.out)
      have hlt := Blk.lt kqc.out
      clear hQ6 kq6 hbd hb6 hE6 hpv hpc hp2 pv pc
      obtain ⟨hU0, hU1, hU2, hU3⟩ := hG.out.used
      rw [← hnq.out] at hU0 hU1 hU2 hU3
      have hnd := Lib.hid hG.out.nd
      have hn4 : nq ≤ 4096 := by rw [hnq.out]; exact hG.out.z
      have hl4 : lq ≤ nq := by
        have h1 := hG.out.len
        have h2 := letsD_len D 0
        rw [← hG.out.eL, ← hlq.out] at h2
        rw [← hnq.out] at h1
        omega
      replace hU1 := Lib.hid hU1
      replace hU2 := Lib.hid hU2
      replace hU0 := Lib.hid hU0
      have d0 : wc.cell? ⟨bq, 0, none⟩ = some (.slice AQ nq cQ) := kqc.out.cell 0
      have d1 : wc.cell? ⟨bq, 1, none⟩ = some (.slice AM lq cM) := kqc.out.cell 1
      have d2 : wc.cell? ⟨bq, 2, none⟩ = some (.int .i64 (k : Int)) := kqc.out.cell 2
      have hmi := fun W => makeL_int nq (by omega) W
      have kqa := Lib.hid (kqc.out.alloc (.cells (ihs (List.replicate nq 0)) 3))
      have hba := Lib.hid (hbc.out.alloc hbc.out.size (.cells (ihs (List.replicate nq 0)) 3))
      have kua := Lib.hid (Blk.new wc 3 (ihs (List.replicate nq 0)))
      have hQa := Lib.hid (hQc.out.below ((Below.refl _ wc).alloc (Nat.le_refl _) (.cells (ihs (List.replicate nq 0)) 3)))
      have hgu : Hid (w.heap.size ≤ wc.heap.size) := Lib.hid hbc.out.size
      replace hU3 := Lib.hid hU3
      replace hn4 := Lib.hid hn4
      replace hl4 := Lib.hid hl4
      replace hlt := Lib.hid hlt
      go_upto_region 20 with fail
      generalize hWa : wc.alloc (.cells (ihs (List.replicate nq 0)) 3) = wd at kqa hba kua hQa ⊢
      generalize hqa2 : wc.heap.size = gu at kua hgu hlt ⊢
      replace hWa := Lib.hid hWa
      replace hqa2 := Lib.hid hqa2
      clear hmi d0 d1 d2 kqc hQc hbc
      go_wp2_with fail
      have hBut0 := Lib.hid (But.refl (fun k => k = gu) wd)
      have hgq : Hid (bq ≠ gu) := Lib.hid (by have := hlt.out; omega)
      go_loopg [16] nq (fun kx s16 wr => ∃ (i : Nat), s16 = .int .i64 (i : Int) ∧ Hid (i + kx = nq) ∧ Hid (But (fun k => k = gu) wd wr) ∧ Hid (Blk wr gu 3 (ihs (usU (List.replicate nq 0) (N'.take i)))))
      case atStart => exact ⟨0, rfl, Lib.hid (by omega), hBut0, kua⟩
      case round =>
        obtain ⟨i, rfl, hik, hB, hK⟩ := hrel
        have kr := (hB.out.block bq (Blk.lt kqa.out) hgq.out).trans kqa.out
        have l0 : wr.cell? ⟨bq, 0, none⟩ = some (.slice AQ nq cQ) := Blk.cell kr 0
        replace kr := Lib.hid kr
        by_cases hin : i < nq
        case pos =>
          have hiN : i < N'.length := by rw [← hnq.out]; exact hin
          obtain ⟨nd, hnd1⟩ : ∃ n, n = N'[i]'hiN := ⟨_, rfl⟩
          have hcl := prgBut hQa.out hB.out kua.out hiN
          rw [← hnd1] at hcl
          obtain ⟨g, o, rfl, -, hcl⟩ := hcl
          have hkb : Hid ((6 ≤ nd.kind → nd.kind ≤ 9 → nd.a < i ∧ nd.b < i) ∧ (nd.kind = 5 ∨ nd.kind = 10 → nd.a < i)) := Lib.hid (by rw [hnd1]; exact ⟨hnd.out.b i hiN, hnd.out.a i hiN⟩)
          have hstep : Hid (usU (List.replicate nq 0) (N'.take (i + 1)) = stU (usU (List.replicate nq 0) (N'.take i)) nd) := Lib.hid (by rw [hnd1]; exact usU_take hiN)
          obtain ⟨U, hU⟩ : ∃ u, u = usU (List.replicate nq 0) (N'.take i) := ⟨_, rfl⟩
          have hUl : U.length = nq := by rw [hU, usU_len, List.length_replicate]
          have hUm : ∀ j : Nat, U[j]! ≤ 8192 := fun j => by
            rw [hU]
            have h1 := usU_le (N'.take i) (List.replicate nq 0) 0 (zeros_le nq) j
            rw [List.length_take] at h1
            have h2 := hn4.out
            omega
          rw [← hU] at hK hstep
          replace hU := Lib.hid hU
          replace hUl := Lib.hid hUl
          replace hUm := Lib.hid hUm
          have x0 : wr.cell? ⟨g, o + i * 5, none⟩ = some (.int .u8 (nd.kind : Int)) := hcl 0 _ rfl
          have x1 : wr.cell? ⟨g, o + i * 5 + 1, none⟩ = some (.string (mkS nd.text)) := hcl 1 _ rfl
          have x2 : wr.cell? ⟨g, o + i * 5 + 2, none⟩ = some (.int .i64 (nd.a : Int)) := hcl 2 _ rfl
          have x3 : wr.cell? ⟨g, o + i * 5 + 3, none⟩ = some (.int .i64 (nd.b : Int)) := hcl 3 _ rfl
          have x4 : wr.cell? ⟨g, o + i * 5 + 4, none⟩ = some (.int .i64 (nd.n : Int)) := hcl 4 _ rfl
          have kb := Lib.hid (Blk.new wr 38 #[.int .u8 (nd.kind : Int), .string (mkS nd.text), .int .i64 (nd.a : Int), .int .i64 (nd.b : Int), .int .i64 (nd.n : Int)])
          have hBa := Lib.hid (hB.out.alloc (.cells #[.int .u8 (nd.kind : Int), .string (mkS nd.text), .int .i64 (nd.a : Int), .int .i64 (nd.b : Int), .int .i64 (nd.n : Int)] 38))
          have hKa := Lib.hid (hK.out.alloc (.cells #[.int .u8 (nd.kind : Int), .string (mkS nd.text), .int .i64 (nd.a : Int), .int .i64 (nd.b : Int), .int .i64 (nd.n : Int)] 38))
          have hgw := Blk.lt hK.out
          clear hcl hB hnd1 hiN
          replace hgw := Lib.hid hgw
          go_upto_region 24 with fail
          generalize hWb : wr.alloc (.cells #[.int .u8 (nd.kind : Int), .string (mkS nd.text), .int .i64 (nd.a : Int), .int .i64 (nd.b : Int), .int .i64 (nd.n : Int)] 38) = we at kb hBa hKa ⊢
          generalize hqb : wr.heap.size = bx at kb hgw ⊢
          replace hWb := Lib.hid hWb
          replace hqb := Lib.hid hqb
          clear x0 x1 x2 x3 x4 l0 hK
          have hbx : ¬ gu = bx := by have := hgw.out; omega
          have hbx2 : ¬ bx = gu := by have := hgw.out; omega
          have y0 : we.cell? ⟨bx, 0, none⟩ = some (.int .u8 (nd.kind : Int)) := kb.out.cell 0
          have y2 : we.cell? ⟨bx, 2, none⟩ = some (.int .i64 (nd.a : Int)) := kb.out.cell 2
          have y3 : we.cell? ⟨bx, 3, none⟩ = some (.int .i64 (nd.b : Int)) := kb.out.cell 3
          have hiw : wrap64 ((i : Int) + 1) = (i : Int) + 1 := wr64_in _ (by have := hn4.out; omega)
          obtain ⟨a, ha⟩ : ∃ a, a = nd.a := ⟨_, rfl⟩
          obtain ⟨b, hb⟩ : ∃ a, a = nd.b := ⟨_, rfl⟩
          obtain ⟨kd, hkd⟩ : ∃ a, a = nd.kind := ⟨_, rfl⟩
          rw [← ha] at y2 hkb
          rw [← hb] at y3 hkb
          rw [← hkd] at y0 hkb
          replace ha := Lib.hid ha
          replace hb := Lib.hid hb
          have hst0 : Hid (stU U nd = if 6 ≤ kd ∧ kd ≤ 9 then bmp (bmp U a) b else if kd = 5 ∨ kd = 10 then bmp U a else U) := Lib.hid (by rw [ha.out, hb.out, hkd]; rfl)
          replace hkd := Lib.hid hkd
          by_cases hk : kd = 6
          case pos =>
            have hab := hkb.out.1 (by omega) (by omega)
            have ha0 : ¬ (a : Int) < 0 := by omega
            have hb0 : ¬ (b : Int) < 0 := by omega
            have ha1 : ¬ (a : Int) ≥ (i : Int) := by omega
            have hb1 : ¬ (b : Int) ≥ (i : Int) := by omega
            have ha2 : (a : Int) < (nq : Int) := by omega
            have hb2 : (b : Int) < (nq : Int) := by omega
            have u1 : we.cell? ⟨gu, a, none⟩ = some (.int .i64 (U[a]! : Int)) := ihs_bang hKa.out (by rw [hUl.out]; omega)
            have hK1 := ihs_bmp (k := a) hKa.out
            have hw1 : wrap64 ((U[a]! : Int) + 1) = (U[a]! : Int) + 1 := wr64_in _ (by have := hUm.out a; omega)
            have u2 : (we.setCell ⟨gu, a, none⟩ (.int .i64 ((U[a]! : Int) + 1))).cell? ⟨gu, b, none⟩ = some (.int .i64 ((bmp U a)[b]! : Int)) := ihs_bang hK1 (by rw [bmp_len, hUl.out]; omega)
            have hw2 : wrap64 (((bmp U a)[b]! : Int) + 1) = ((bmp U a)[b]! : Int) + 1 := wr64_in _ (by have := bmp_le (k := a) hUm.out b; omega)
            have y32 : (we.setCell ⟨gu, a, none⟩ (.int .i64 ((U[a]! : Int) + 1))).cell? ⟨bx, 3, none⟩ = some (.int .i64 (b : Int)) := by rw [hb.out]; exact (kb.out.far (p := ⟨gu, a, none⟩) hbx2 _).cell 3
            have f1 : we.frozen? ⟨gu, a, none⟩ = false := hKa.out.frozen a
            have f2 := hK1.frozen b
            have hK2 := Lib.hid (ihs_bmp (k := b) hK1)
            have hB2 := Lib.hid ((hBa.out.setCell (p := ⟨gu, a, none⟩) (.inl rfl) (.int .i64 ((U[a]! : Int) + 1))).setCell (p := ⟨gu, b, none⟩) (.inl rfl) (.int .i64 (((bmp U a)[b]! : Int) + 1)))
            obtain ⟨ua, hua⟩ : ∃ u, u = U[a]! := ⟨_, rfl⟩
            obtain ⟨ub, hub⟩ : ∃ u, u = (bmp U a)[b]! := ⟨_, rfl⟩
            rw [← hua] at u1 hw1 u2 y32 f2 hK2 hB2
            rw [← hub] at u2 hw2 hK2 hB2
            have hst1 : Hid (stU U nd = bmp (bmp U a) b) := Lib.hid (by rw [hst0.out, if_pos (by omega)])
            replace hua := Lib.hid hua
            replace hub := Lib.hid hub
            clear hK1 hab
            have hq6 : ((kd : Int) == 6) = true := i_eq hk
            have hp6 : (kd : Int) = 6 := by omega
            have hq7 : ((kd : Int) == 7) = false := i_ne (b := 7) (by omega)
            have hp7 : ¬ (kd : Int) = 7 := by omega
            have hq8 : ((kd : Int) == 8) = false := i_ne (b := 8) (by omega)
            have hp8 : ¬ (kd : Int) = 8 := by omega
            have hq9 : ((kd : Int) == 9) = false := i_ne (b := 9) (by omega)
            have hp9 : ¬ (kd : Int) = 9 := by omega
            have hq5 : ((kd : Int) == 5) = false := i_ne (b := 5) (by omega)
            have hp5 : ¬ (kd : Int) = 5 := by omega
            have hq10 : ((kd : Int) == 10) = false := i_ne (b := 10) (by omega)
            have hp10 : ¬ (kd : Int) = 10 := by omega
            clear hk
            go_wp2_with fail
            go_roundg (gk - 1)
            case measure =>
              have := hik.out
              omega
            case rel => exact ⟨i + 1, (by first | rfl | (rw [hiw]; rfl)), Lib.hid (by have := hik.out; omega), hB2, Lib.hid (by rw [hstep.out, hst1.out]; exact hK2.out)⟩
          case neg =>
            have hk6 := hk
            clear hk
            by_cases hk : kd = 7
            case pos =>
              have hab := hkb.out.1 (by omega) (by omega)
              have ha0 : ¬ (a : Int) < 0 := by omega
              have hb0 : ¬ (b : Int) < 0 := by omega
              have ha1 : ¬ (a : Int) ≥ (i : Int) := by omega
              have hb1 : ¬ (b : Int) ≥ (i : Int) := by omega
              have ha2 : (a : Int) < (nq : Int) := by omega
              have hb2 : (b : Int) < (nq : Int) := by omega
              have u1 : we.cell? ⟨gu, a, none⟩ = some (.int .i64 (U[a]! : Int)) := ihs_bang hKa.out (by rw [hUl.out]; omega)
              have hK1 := ihs_bmp (k := a) hKa.out
              have hw1 : wrap64 ((U[a]! : Int) + 1) = (U[a]! : Int) + 1 := wr64_in _ (by have := hUm.out a; omega)
              have u2 : (we.setCell ⟨gu, a, none⟩ (.int .i64 ((U[a]! : Int) + 1))).cell? ⟨gu, b, none⟩ = some (.int .i64 ((bmp U a)[b]! : Int)) := ihs_bang hK1 (by rw [bmp_len, hUl.out]; omega)
              have hw2 : wrap64 (((bmp U a)[b]! : Int) + 1) = ((bmp U a)[b]! : Int) + 1 := wr64_in _ (by have := bmp_le (k := a) hUm.out b; omega)
              have y32 : (we.setCell ⟨gu, a, none⟩ (.int .i64 ((U[a]! : Int) + 1))).cell? ⟨bx, 3, none⟩ = some (.int .i64 (b : Int)) := by rw [hb.out]; exact (kb.out.far (p := ⟨gu, a, none⟩) hbx2 _).cell 3
              have f1 : we.frozen? ⟨gu, a, none⟩ = false := hKa.out.frozen a
              have f2 := hK1.frozen b
              have hK2 := Lib.hid (ihs_bmp (k := b) hK1)
              have hB2 := Lib.hid ((hBa.out.setCell (p := ⟨gu, a, none⟩) (.inl rfl) (.int .i64 ((U[a]! : Int) + 1))).setCell (p := ⟨gu, b, none⟩) (.inl rfl) (.int .i64 (((bmp U a)[b]! : Int) + 1)))
              obtain ⟨ua, hua⟩ : ∃ u, u = U[a]! := ⟨_, rfl⟩
              obtain ⟨ub, hub⟩ : ∃ u, u = (bmp U a)[b]! := ⟨_, rfl⟩
              rw [← hua] at u1 hw1 u2 y32 f2 hK2 hB2
              rw [← hub] at u2 hw2 hK2 hB2
              have hst1 : Hid (stU U nd = bmp (bmp U a) b) := Lib.hid (by rw [hst0.out, if_pos (by omega)])
              replace hua := Lib.hid hua
              replace hub := Lib.hid hub
              clear hK1 hab
              have hq6 : ((kd : Int) == 6) = false := i_ne (b := 6) (by omega)
              have hp6 : ¬ (kd : Int) = 6 := by omega
              have hq7 : ((kd : Int) == 7) = true := i_eq hk
              have hp7 : (kd : Int) = 7 := by omega
              have hq8 : ((kd : Int) == 8) = false := i_ne (b := 8) (by omega)
              have hp8 : ¬ (kd : Int) = 8 := by omega
              have hq9 : ((kd : Int) == 9) = false := i_ne (b := 9) (by omega)
              have hp9 : ¬ (kd : Int) = 9 := by omega
              have hq5 : ((kd : Int) == 5) = false := i_ne (b := 5) (by omega)
              have hp5 : ¬ (kd : Int) = 5 := by omega
              have hq10 : ((kd : Int) == 10) = false := i_ne (b := 10) (by omega)
              have hp10 : ¬ (kd : Int) = 10 := by omega
              clear hk
              go_wp2_with fail
              go_roundg (gk - 1)
              case measure =>
                have := hik.out
                omega
              case rel => exact ⟨i + 1, (by first | rfl | (rw [hiw]; rfl)), Lib.hid (by have := hik.out; omega), hB2, Lib.hid (by rw [hstep.out, hst1.out]; exact hK2.out)⟩
            case neg =>
              have hk7 := hk
              clear hk
              by_cases hk : kd = 8
              case pos =>
                have hab := hkb.out.1 (by omega) (by omega)
                have ha0 : ¬ (a : Int) < 0 := by omega
                have hb0 : ¬ (b : Int) < 0 := by omega
                have ha1 : ¬ (a : Int) ≥ (i : Int) := by omega
                have hb1 : ¬ (b : Int) ≥ (i : Int) := by omega
                have ha2 : (a : Int) < (nq : Int) := by omega
                have hb2 : (b : Int) < (nq : Int) := by omega
                have u1 : we.cell? ⟨gu, a, none⟩ = some (.int .i64 (U[a]! : Int)) := ihs_bang hKa.out (by rw [hUl.out]; omega)
                have hK1 := ihs_bmp (k := a) hKa.out
                have hw1 : wrap64 ((U[a]! : Int) + 1) = (U[a]! : Int) + 1 := wr64_in _ (by have := hUm.out a; omega)
                have u2 : (we.setCell ⟨gu, a, none⟩ (.int .i64 ((U[a]! : Int) + 1))).cell? ⟨gu, b, none⟩ = some (.int .i64 ((bmp U a)[b]! : Int)) := ihs_bang hK1 (by rw [bmp_len, hUl.out]; omega)
                have hw2 : wrap64 (((bmp U a)[b]! : Int) + 1) = ((bmp U a)[b]! : Int) + 1 := wr64_in _ (by have := bmp_le (k := a) hUm.out b; omega)
                have y32 : (we.setCell ⟨gu, a, none⟩ (.int .i64 ((U[a]! : Int) + 1))).cell? ⟨bx, 3, none⟩ = some (.int .i64 (b : Int)) := by rw [hb.out]; exact (kb.out.far (p := ⟨gu, a, none⟩) hbx2 _).cell 3
                have f1 : we.frozen? ⟨gu, a, none⟩ = false := hKa.out.frozen a
                have f2 := hK1.frozen b
                have hK2 := Lib.hid (ihs_bmp (k := b) hK1)
                have hB2 := Lib.hid ((hBa.out.setCell (p := ⟨gu, a, none⟩) (.inl rfl) (.int .i64 ((U[a]! : Int) + 1))).setCell (p := ⟨gu, b, none⟩) (.inl rfl) (.int .i64 (((bmp U a)[b]! : Int) + 1)))
                obtain ⟨ua, hua⟩ : ∃ u, u = U[a]! := ⟨_, rfl⟩
                obtain ⟨ub, hub⟩ : ∃ u, u = (bmp U a)[b]! := ⟨_, rfl⟩
                rw [← hua] at u1 hw1 u2 y32 f2 hK2 hB2
                rw [← hub] at u2 hw2 hK2 hB2
                have hst1 : Hid (stU U nd = bmp (bmp U a) b) := Lib.hid (by rw [hst0.out, if_pos (by omega)])
                replace hua := Lib.hid hua
                replace hub := Lib.hid hub
                clear hK1 hab
                have hq6 : ((kd : Int) == 6) = false := i_ne (b := 6) (by omega)
                have hp6 : ¬ (kd : Int) = 6 := by omega
                have hq7 : ((kd : Int) == 7) = false := i_ne (b := 7) (by omega)
                have hp7 : ¬ (kd : Int) = 7 := by omega
                have hq8 : ((kd : Int) == 8) = true := i_eq hk
                have hp8 : (kd : Int) = 8 := by omega
                have hq9 : ((kd : Int) == 9) = false := i_ne (b := 9) (by omega)
                have hp9 : ¬ (kd : Int) = 9 := by omega
                have hq5 : ((kd : Int) == 5) = false := i_ne (b := 5) (by omega)
                have hp5 : ¬ (kd : Int) = 5 := by omega
                have hq10 : ((kd : Int) == 10) = false := i_ne (b := 10) (by omega)
                have hp10 : ¬ (kd : Int) = 10 := by omega
                clear hk
                go_wp2_with fail
                go_roundg (gk - 1)
                case measure =>
                  have := hik.out
                  omega
                case rel => exact ⟨i + 1, (by first | rfl | (rw [hiw]; rfl)), Lib.hid (by have := hik.out; omega), hB2, Lib.hid (by rw [hstep.out, hst1.out]; exact hK2.out)⟩
              case neg =>
                have hk8 := hk
                clear hk
                by_cases hk : kd = 9
                case pos =>
                  have hab := hkb.out.1 (by omega) (by omega)
                  have ha0 : ¬ (a : Int) < 0 := by omega
                  have hb0 : ¬ (b : Int) < 0 := by omega
                  have ha1 : ¬ (a : Int) ≥ (i : Int) := by omega
                  have hb1 : ¬ (b : Int) ≥ (i : Int) := by omega
                  have ha2 : (a : Int) < (nq : Int) := by omega
                  have hb2 : (b : Int) < (nq : Int) := by omega
                  have u1 : we.cell? ⟨gu, a, none⟩ = some (.int .i64 (U[a]! : Int)) := ihs_bang hKa.out (by rw [hUl.out]; omega)
                  have hK1 := ihs_bmp (k := a) hKa.out
                  have hw1 : wrap64 ((U[a]! : Int) + 1) = (U[a]! : Int) + 1 := wr64_in _ (by have := hUm.out a; omega)
                  have u2 : (we.setCell ⟨gu, a, none⟩ (.int .i64 ((U[a]! : Int) + 1))).cell? ⟨gu, b, none⟩ = some (.int .i64 ((bmp U a)[b]! : Int)) := ihs_bang hK1 (by rw [bmp_len, hUl.out]; omega)
                  have hw2 : wrap64 (((bmp U a)[b]! : Int) + 1) = ((bmp U a)[b]! : Int) + 1 := wr64_in _ (by have := bmp_le (k := a) hUm.out b; omega)
                  have y32 : (we.setCell ⟨gu, a, none⟩ (.int .i64 ((U[a]! : Int) + 1))).cell? ⟨bx, 3, none⟩ = some (.int .i64 (b : Int)) := by rw [hb.out]; exact (kb.out.far (p := ⟨gu, a, none⟩) hbx2 _).cell 3
                  have f1 : we.frozen? ⟨gu, a, none⟩ = false := hKa.out.frozen a
                  have f2 := hK1.frozen b
                  have hK2 := Lib.hid (ihs_bmp (k := b) hK1)
                  have hB2 := Lib.hid ((hBa.out.setCell (p := ⟨gu, a, none⟩) (.inl rfl) (.int .i64 ((U[a]! : Int) + 1))).setCell (p := ⟨gu, b, none⟩) (.inl rfl) (.int .i64 (((bmp U a)[b]! : Int) + 1)))
                  obtain ⟨ua, hua⟩ : ∃ u, u = U[a]! := ⟨_, rfl⟩
                  obtain ⟨ub, hub⟩ : ∃ u, u = (bmp U a)[b]! := ⟨_, rfl⟩
                  rw [← hua] at u1 hw1 u2 y32 f2 hK2 hB2
                  rw [← hub] at u2 hw2 hK2 hB2
                  have hst1 : Hid (stU U nd = bmp (bmp U a) b) := Lib.hid (by rw [hst0.out, if_pos (by omega)])
                  replace hua := Lib.hid hua
                  replace hub := Lib.hid hub
                  clear hK1 hab
                  have hq6 : ((kd : Int) == 6) = false := i_ne (b := 6) (by omega)
                  have hp6 : ¬ (kd : Int) = 6 := by omega
                  have hq7 : ((kd : Int) == 7) = false := i_ne (b := 7) (by omega)
                  have hp7 : ¬ (kd : Int) = 7 := by omega
                  have hq8 : ((kd : Int) == 8) = false := i_ne (b := 8) (by omega)
                  have hp8 : ¬ (kd : Int) = 8 := by omega
                  have hq9 : ((kd : Int) == 9) = true := i_eq hk
                  have hp9 : (kd : Int) = 9 := by omega
                  have hq5 : ((kd : Int) == 5) = false := i_ne (b := 5) (by omega)
                  have hp5 : ¬ (kd : Int) = 5 := by omega
                  have hq10 : ((kd : Int) == 10) = false := i_ne (b := 10) (by omega)
                  have hp10 : ¬ (kd : Int) = 10 := by omega
                  clear hk
                  go_wp2_with fail
                  go_roundg (gk - 1)
                  case measure =>
                    have := hik.out
                    omega
                  case rel => exact ⟨i + 1, (by first | rfl | (rw [hiw]; rfl)), Lib.hid (by have := hik.out; omega), hB2, Lib.hid (by rw [hstep.out, hst1.out]; exact hK2.out)⟩
                case neg =>
                  have hk9 := hk
                  clear hk
                  by_cases hk : kd = 5
                  case pos =>
                    have hab := hkb.out.2 (by omega)
                    have ha0 : ¬ (a : Int) < 0 := by omega
                    have ha1 : ¬ (a : Int) ≥ (i : Int) := by omega
                    have ha2 : (a : Int) < (nq : Int) := by omega
                    have u1 : we.cell? ⟨gu, a, none⟩ = some (.int .i64 (U[a]! : Int)) := ihs_bang hKa.out (by rw [hUl.out]; omega)
                    have hw1 : wrap64 ((U[a]! : Int) + 1) = (U[a]! : Int) + 1 := wr64_in _ (by have := hUm.out a; omega)
                    have f1 : we.frozen? ⟨gu, a, none⟩ = false := hKa.out.frozen a
                    have hK2 := Lib.hid (ihs_bmp (k := a) hKa.out)
                    have hB2 := Lib.hid (hBa.out.setCell (p := ⟨gu, a, none⟩) (.inl rfl) (.int .i64 ((U[a]! : Int) + 1)))
                    obtain ⟨ua, hua⟩ : ∃ u, u = U[a]! := ⟨_, rfl⟩
                    rw [← hua] at u1 hw1 hK2 hB2
                    have hst1 : Hid (stU U nd = bmp U a) := Lib.hid (by rw [hst0.out, if_neg (by omega), if_pos (by omega)])
                    replace hua := Lib.hid hua
                    clear hab
                    have hq6 : ((kd : Int) == 6) = false := i_ne (b := 6) (by omega)
                    have hp6 : ¬ (kd : Int) = 6 := by omega
                    have hq7 : ((kd : Int) == 7) = false := i_ne (b := 7) (by omega)
                    have hp7 : ¬ (kd : Int) = 7 := by omega
                    have hq8 : ((kd : Int) == 8) = false := i_ne (b := 8) (by omega)
                    have hp8 : ¬ (kd : Int) = 8 := by omega
                    have hq9 : ((kd : Int) == 9) = false := i_ne (b := 9) (by omega)
                    have hp9 : ¬ (kd : Int) = 9 := by omega
                    have hq5 : ((kd : Int) == 5) = true := i_eq hk
                    have hp5 : (kd : Int) = 5 := by omega
                    have hq10 : ((kd : Int) == 10) = false := i_ne (b := 10) (by omega)
                    have hp10 : ¬ (kd : Int) = 10 := by omega
                    clear hk
                    go_wp2_with fail
                    go_roundg (gk - 1)
                    case measure =>
                      have := hik.out
                      omega
                    case rel => exact ⟨i + 1, (by first | rfl | (rw [hiw]; rfl)), Lib.hid (by have := hik.out; omega), hB2, Lib.hid (by rw [hstep.out, hst1.out]; exact hK2.out)⟩
                  case neg =>
                    have hk5 := hk
                    clear hk
                    by_cases hk : kd = 10
                    case pos =>
                      have hab := hkb.out.2 (by omega)
                      have ha0 : ¬ (a : Int) < 0 := by omega
                      have ha1 : ¬ (a : Int) ≥ (i : Int) := by omega
                      have ha2 : (a : Int) < (nq : Int) := by omega
                      have u1 : we.cell? ⟨gu, a, none⟩ = some (.int .i64 (U[a]! : Int)) := ihs_bang hKa.out (by rw [hUl.out]; omega)
                      have hw1 : wrap64 ((U[a]! : Int) + 1) = (U[a]! : Int) + 1 := wr64_in _ (by have := hUm.out a; omega)
                      have f1 : we.frozen? ⟨gu, a, none⟩ = false := hKa.out.frozen a
                      have hK2 := Lib.hid (ihs_bmp (k := a) hKa.out)
                      have hB2 := Lib.hid (hBa.out.setCell (p := ⟨gu, a, none⟩) (.inl rfl) (.int .i64 ((U[a]! : Int) + 1)))
                      obtain ⟨ua, hua⟩ : ∃ u, u = U[a]! := ⟨_, rfl⟩
                      rw [← hua] at u1 hw1 hK2 hB2
                      have hst1 : Hid (stU U nd = bmp U a) := Lib.hid (by rw [hst0.out, if_neg (by omega), if_pos (by omega)])
                      replace hua := Lib.hid hua
                      clear hab
                      have hq6 : ((kd : Int) == 6) = false := i_ne (b := 6) (by omega)
                      have hp6 : ¬ (kd : Int) = 6 := by omega
                      have hq7 : ((kd : Int) == 7) = false := i_ne (b := 7) (by omega)
                      have hp7 : ¬ (kd : Int) = 7 := by omega
                      have hq8 : ((kd : Int) == 8) = false := i_ne (b := 8) (by omega)
                      have hp8 : ¬ (kd : Int) = 8 := by omega
                      have hq9 : ((kd : Int) == 9) = false := i_ne (b := 9) (by omega)
                      have hp9 : ¬ (kd : Int) = 9 := by omega
                      have hq5 : ((kd : Int) == 5) = false := i_ne (b := 5) (by omega)
                      have hp5 : ¬ (kd : Int) = 5 := by omega
                      have hq10 : ((kd : Int) == 10) = true := i_eq hk
                      have hp10 : (kd : Int) = 10 := by omega
                      clear hk
                      go_wp2_with fail
                      go_roundg (gk - 1)
                      case measure =>
                        have := hik.out
                        omega
                      case rel => exact ⟨i + 1, (by first | rfl | (rw [hiw]; rfl)), Lib.hid (by have := hik.out; omega), hB2, Lib.hid (by rw [hstep.out, hst1.out]; exact hK2.out)⟩
                    case neg =>
                      have hk10 := hk
                      clear hk
                      have hq6 : ((kd : Int) == 6) = false := i_ne (b := 6) hk6
                      have hp6 : ¬ (kd : Int) = 6 := by omega
                      have hq7 : ((kd : Int) == 7) = false := i_ne (b := 7) hk7
                      have hp7 : ¬ (kd : Int) = 7 := by omega
                      have hq8 : ((kd : Int) == 8) = false := i_ne (b := 8) hk8
                      have hp8 : ¬ (kd : Int) = 8 := by omega
                      have hq9 : ((kd : Int) == 9) = false := i_ne (b := 9) hk9
                      have hp9 : ¬ (kd : Int) = 9 := by omega
                      have hq5 : ((kd : Int) == 5) = false := i_ne (b := 5) hk5
                      have hp5 : ¬ (kd : Int) = 5 := by omega
                      have hq10 : ((kd : Int) == 10) = false := i_ne (b := 10) hk10
                      have hp10 : ¬ (kd : Int) = 10 := by omega
                      have hst1 : Hid (stU U nd = U) := Lib.hid (by rw [hst0.out, if_neg (by omega), if_neg (by omega)])
                      clear hk6 hk7 hk8 hk9 hk5 hk10
                      go_wp2_with fail
                      go_roundg (gk - 1)
                      case measure =>
                        have := hik.out
                        omega
                      case rel => exact ⟨i + 1, (by first | rfl | (rw [hiw]; rfl)), Lib.hid (by have := hik.out; omega), hBa, Lib.hid (by rw [hstep.out, hst1.out]; exact hKa.out)⟩
        case neg =>
          have hi : i = nq := by have := hik.out; omega
          have hU : Hid (usU (List.replicate nq 0) (N'.take i) = usU (List.replicate nq 0) N') := Lib.hid (by rw [hi, hnq.out, List.take_length])
          rw [hU.out] at hK
          obtain ⟨U, hUe⟩ : ∃ u, u = usU (List.replicate nq 0) N' := ⟨_, rfl⟩
          rw [← hUe] at hK hU0 hU1
          have hUm : ∀ j : Nat, U[j]! ≤ 8192 := fun j => by
            rw [hUe]
            have h1 := usU_le N' (List.replicate nq 0) 0 (zeros_le nq) j
            rw [← hnq.out] at h1
            have h2 := hn4.out
            omega
          replace hUm := Lib.hid hUm
          replace hUe := Lib.hid hUe
          generalize hWr : wr = wz at hB hK kr l0 ⊢
          replace hi := Lib.hid hi
          clear hWr hik hU
          have hBut1 := Lib.hid (But.refl (fun k => k = gu) wz)
          have hBz := hB
          go_wp2_with fail
          go_loopg [18] lq (fun kx s18 wr => ∃ (i : Nat), s18 = .int .i64 (i : Int) ∧ Hid (i + kx = lq) ∧ Hid (But (fun k => k = gu) wd wr) ∧ Hid (Blk wr gu 3 (ihs (ltU U (L'.take i)))))
          case atStart => exact ⟨0, rfl, Lib.hid (by omega), hBz, hK⟩
          case round =>
            clear l0 hB
            obtain ⟨q, rfl, hqk, hB, hK2⟩ := hrel
            have kr2 := (hB.out.block bq (Blk.lt kqa.out) hgq.out).trans kqa.out
            have l0 : wr.cell? ⟨bq, 0, none⟩ = some (.slice AQ nq cQ) := Blk.cell kr2 0
            have l1 : wr.cell? ⟨bq, 1, none⟩ = some (.slice AM lq cM) := Blk.cell kr2 1
            have l2 : wr.cell? ⟨bq, 2, none⟩ = some (.int .i64 (k : Int)) := Blk.cell kr2 2
            replace kr2 := Lib.hid kr2
            by_cases hqn : q < lq
            case pos =>
              have hiN : q < L'.length := by rw [← hlq.out]; exact hqn
              obtain ⟨a, ha⟩ : ∃ n, n = (L'[q]'hiN).2 := ⟨_, rfl⟩
              have hcl := prgBut2 hQa.out hB.out kua.out hiN
              rw [← ha] at hcl
              obtain ⟨g, o, rfl, -, x1⟩ := hcl
              have haq : a < nq := by rw [ha]; exact hU2.out _ (List.getElem_mem _)
              have hstep : Hid (ltU U (L'.take (q + 1)) = bmp (ltU U (L'.take q)) a) := Lib.hid (by rw [ha]; exact ltU_take hiN)
              obtain ⟨V, hV⟩ : ∃ u, u = ltU U (L'.take q) := ⟨_, rfl⟩
              have hVl : V.length = nq := by rw [hV, ltU_len, hU0.out]
              have hVm : ∀ j : Nat, V[j]! ≤ 16384 := fun j => by
                rw [hV]
                have h1 := ltU_le (L'.take q) U 8192 hUm.out j
                rw [List.length_take] at h1
                have h2 := hn4.out
                have h3 := hl4.out
                omega
              rw [← hV] at hK2 hstep
              have ha0 : ¬ (a : Int) < 0 := by omega
              have ha1 : ¬ (a : Int) ≥ (nq : Int) := by omega
              have ha2 : (a : Int) < (nq : Int) := by omega
              have u1 : wr.cell? ⟨gu, a, none⟩ = some (.int .i64 (V[a]! : Int)) := ihs_bang hK2.out (by rw [hVl]; omega)
              have hw1 : wrap64 ((V[a]! : Int) + 1) = (V[a]! : Int) + 1 := wr64_in _ (by have := hVm a; omega)
              have f1 : wr.frozen? ⟨gu, a, none⟩ = false := hK2.out.frozen a
              have hK3 := Lib.hid (ihs_bmp (k := a) hK2.out)
              have hB3 := Lib.hid (hB.out.setCell (p := ⟨gu, a, none⟩) (.inl rfl) (.int .i64 ((V[a]! : Int) + 1)))
              have hqw : wrap64 ((q : Int) + 1) = (q : Int) + 1 := wr64_in _ (by have := hn4.out; have := hl4.out; omega)
              obtain ⟨ua, hua⟩ : ∃ u, u = V[a]! := ⟨_, rfl⟩
              rw [← hua] at u1 hw1 hK3 hB3
              replace hua := Lib.hid hua
              clear ha
              replace hV := Lib.hid hV
              replace hVl := Lib.hid hVl
              replace hVm := Lib.hid hVm
              clear haq hiN
              go_wp2_with fail
              go_roundg (gk - 1)
              case measure =>
                have := hqk.out
                omega
              case rel => exact ⟨q + 1, (by first | rfl | (rw [hqw]; rfl)), Lib.hid (by have := hqk.out; omega), hB3, Lib.hid (by rw [hstep.out]; exact hK3.out)⟩
            case neg =>
              have hq : q = lq := by have := hqk.out; omega
              have hU4 : Hid (ltU U (L'.take q) = ltU U L') := Lib.hid (by rw [hq, hlq.out, List.take_length])
              rw [hU4.out] at hK2
              obtain ⟨V, hV⟩ : ∃ u, u = ltU U L' := ⟨_, rfl⟩
              rw [← hV] at hK2 hU1
              have hVl : V.length = nq := by rw [hV, ltU_len, hU0.out]
              have hVm : ∀ j : Nat, V[j]! ≤ 16384 := fun j => by
                rw [hV]
                have h1 := ltU_le L' U 8192 hUm.out j
                rw [← hlq.out] at h1
                have h2 := hn4.out
                have h3 := hl4.out
                omega
              have hkq := hU3.out
              have hsub : wrap64 ((nq : Int) - 1) = (k : Int) := by rw [wr64_in _ (by have := hn4.out; omega)]; omega
              have hk2 : (k : Int) < (nq : Int) := by omega
              have hk0 : ¬ (k : Int) < 0 := by omega
              have u1 : wr.cell? ⟨gu, k, none⟩ = some (.int .i64 (V[k]! : Int)) := ihs_bang hK2.out (by rw [hVl]; omega)
              have hw1 : wrap64 ((V[k]! : Int) + 1) = (V[k]! : Int) + 1 := wr64_in _ (by have := hVm k; omega)
              have f1 : wr.frozen? ⟨gu, k, none⟩ = false := hK2.out.frozen k
              have hK3 := Lib.hid (ihs_bmp (k := k) hK2.out)
              have hB3 := Lib.hid (hB.out.setCell (p := ⟨gu, k, none⟩) (.inl rfl) (.int .i64 ((V[k]! : Int) + 1)))
              have hWl : Hid ((bmp V k).length = nq) := Lib.hid (by rw [bmp_len]; exact hVl)
              obtain ⟨ua, hua⟩ : ∃ u, u = V[k]! := ⟨_, rfl⟩
              rw [← hua] at u1 hw1 hK3 hB3
              replace hua := Lib.hid hua
              replace hV := Lib.hid hV
              replace hVl := Lib.hid hVl
              replace hVm := Lib.hid hVm
              replace hq := Lib.hid hq
              clear hkq hqk hU4
              go_wp2_with fail
              generalize hWr : wr.setCell ⟨gu, k, none⟩ (.int .i64 ((ua : Int) + 1)) = wy at hK3 hB3 ⊢
              clear u1 f1 l0 l1 l2 hB hK2 kr2 hWr wr
              go_loopg [19] nq (fun kx s19 wr => ∃ (j : Nat), s19 = .int .i64 (j : Int) ∧ Hid (j + kx = nq) ∧ wr = wy)
              case atStart => exact ⟨0, rfl, Lib.hid (by omega), rfl⟩
              case round =>
                obtain ⟨j, rfl, hjk, rfl⟩ := hrel
                by_cases hjn : j < nq
                case pos =>
                  have u1 : wr.cell? ⟨gu, j, none⟩ = some (.int .i64 1) := by
                    have h := ihs_bang hK3.out (k := j) (by rw [hWl.out]; exact hjn)
                    rw [hU1.out j hjn] at h
                    exact h
                  have hjw : wrap64 ((j : Int) + 1) = (j : Int) + 1 := wr64_in _ (by have := hn4.out; omega)
                  go_wp2_with fail
                  go_roundg (gk - 1)
                  case measure =>
                    have := hjk.out
                    omega
                  case rel => exact ⟨j + 1, (by first | rfl | (rw [hjw]; rfl)), Lib.hid (by have := hjk.out; omega), rfl⟩
                case neg =>
                  have hBf := Lib.hid (hba.out.trans (hB3.out.toBelow hba.out.size (fun k hk e => by have := hgu.out; omega)))
                  have cA := Lib.hid (lgawake_any (hE0.out.below hBf.out))
                  go_wp2_with fail
                  refine Calls.mono cA.out ?_
                  rintro en w6 ⟨rfl, hb⟩
                  have hb6 := Lib.hid (hBf.out.trans (hb.mono hBf.out.size))
                  clear hb cA
                  go_wp2_with fail
                  go_ret
                  first | exact ⟨rfl, hb6.out⟩ | exact hb6.out
end Go.Proofs.YtnaadajcehfmiaaDoor
