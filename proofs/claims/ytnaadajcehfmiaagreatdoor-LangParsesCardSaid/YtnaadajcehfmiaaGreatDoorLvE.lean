/- filigreeref11: IsName, take, named. -/
import Derived.Test.YtnaadajcehfmiaaGreatDoorLvD
namespace Go.Proofs.YtnaadajcehfmiaaGreatDoor
open Go.RowKit Go.Sort Go.Maps

set_option maxRecDepth 100000 in
/-- IsName -/
theorem rvIsName (t : List Nat) (ht : Byt t) (w : World) : Calls Tryz.prog 28 #[.string (mkS t)] w (fun e w' => e = .returned (.bool (isName t)) ∧ w' = w) := by
  have e1 : (mkS t).toList = [105] ↔ t = [105] := mkS_is ht [105] (by unfold Byt; simp)
  have e2 : (mkS t).toList = [122] ↔ t = [122] := mkS_is ht [122] (by unfold Byt; simp)
  have e3 : (mkS t).toList = [108, 101, 116] ↔ t = [108, 101, 116] := mkS_is ht [108, 101, 116] (by unfold Byt; simp)
  rcases t with _ | ⟨b, l⟩
  · have hr : isName [] = false := rfl
    rw [hr]
    rw [show mkS [] = (⟨#[]⟩ : ByteArray) from rfl]
    clear e1 e2 e3 hr
    go_enter Tryz.func28, Tryz.ntmps28
    go_wp2_with fail
    go_ret
    exact ⟨rfl, rfl⟩
  · obtain ⟨tk, htk⟩ : ∃ k, k = mkS (b :: l) := ⟨_, rfl⟩
    have hsz : 0 < tk.size := by rw [htk, mkS_size]; simp
    have hb9 : b < 256 := ht b (List.mem_cons_self ..)
    have hcx : (((tk[0]'hsz).toNat : Nat) : Int) = (b : Int) := by
      have h1 := sl_get tk 0 hsz
      have h3 : sl tk = b :: l := by rw [htk]; exact sl_mk _ ht
      rw [h3] at h1
      have h2 : b = tk[0].toNat := Option.some.inj h1
      rw [← h2]
    have hszI : (0 : Int) < (tk.size : Int) := by omega
    have e0 : ¬ tk.toList = [] := fun e => by
      have h1 : tk.data.toList = [] := by rw [← ByteArray.toList_eq]; exact e
      have h2 : tk.size = 0 := by
        have := congrArg List.length h1
        simpa using this
      omega
    have e00 : tk.toList.isEmpty = false := by simpa using e0
    rw [← htk] at e1 e2 e3 ⊢
    replace htk := Lib.hid htk
    have cT0 := fun W => rletter_any b W
    have hn : isName (b :: l) = (letB b && decide ((b :: l) ≠ [105]) && decide ((b :: l) ≠ [122]) && decide ((b :: l) ≠ [108, 101, 116])) := rfl
    rw [hn]
    clear ht hn
    have hr : (letB b && decide ((b :: l) ≠ [105]) && decide ((b :: l) ≠ [122]) && decide ((b :: l) ≠ [108, 101, 116])) = (letB b && !decide (tk.toList = [105]) && !decide (tk.toList = [122]) && !decide (tk.toList = [108, 101, 116])) := by
      rw [decide_not, decide_not, decide_not, decide_eq_decide.2 e1, decide_eq_decide.2 e2, decide_eq_decide.2 e3]
    rw [hr]
    clear hr e1 e2 e3
    obtain ⟨tb, htb⟩ : ∃ x, x = letB b := ⟨_, rfl⟩
    rw [← htb] at cT0 ⊢
    replace htb := Lib.hid htb
    have cT := Lib.hid cT0
    clear cT0
    cases tb
    · go_enter Tryz.func28, Tryz.ntmps28
      go_wp2_with fail
      refine (cT.out _).mono ?_
      rintro en w1 ⟨rfl, rfl⟩
      go_wp2_with fail
      go_ret
      exact ⟨by simp, rfl⟩
    · by_cases h1 : tk.toList = [105] <;> by_cases h2 : tk.toList = [122] <;> by_cases h3 : tk.toList = [108, 101, 116]
      all_goals
        go_enter Tryz.func28, Tryz.ntmps28
        go_wp2_with fail
        refine (cT.out _).mono ?_
        rintro en w1 ⟨rfl, rfl⟩
        go_wp2_with fail
        go_ret
        exact ⟨by simp [h1, h2, h3], rfl⟩
section
variable {T0 : List Tok} {last : Nat} {wrong : Bool} {B p i : Nat} {X : List It} {o : Int} {oN : Nat} {N : List Nod} {H : List Nat} {U : List (List Nat × Nat)} {wh cd : Nat} {st : PS} {w w' : World}
theorem TkOk.byt (h : TkOk T0 last) (i : Nat) : Byt (txA T0 i) ∧ (txA T0 i).length ≤ 16384 := by
  unfold txA
  rcases hg : T0[i]? with _ | t
  · exact ⟨byt_nil, Nat.zero_le _⟩
  · have := h.toks t (List.mem_of_getElem? hg)
    exact ⟨this.2.2.1, this.2.1⟩
theorem RvOk.ne (h : RvOk T0 i st) (hne : st.tx ≠ []) : st.T ≠ [] := fun e => hne (by rw [PS.tx, e])
theorem RvS.below (h : RvS T0 last wrong B p X oN st w) (hb : Below w.heap.size w w') : RvS T0 last wrong B p X oN st w' := by
  obtain ⟨i, h1, h2⟩ := h
  exact ⟨i, h1.below hb, h2⟩
theorem RvF.below (h : RvF T0 last wrong B p X U wh cd w) (hb : Below w.heap.size w w') : RvF T0 last wrong B p X U wh cd w' := by
  obtain ⟨o, i, N, H, h⟩ := h
  exact ⟨o, i, N, H, h.below hb⟩
set_option maxRecDepth 100000 in
/-- take -/
theorem rvTake (hT : TkOk T0 last) (x : List Nat) (hx : Byt x) (hne : x ≠ []) (h : RvS T0 last wrong B p X oN st w) :
    Calls Tryz.prog 32 #[.pointer (some ⟨p, 0, none⟩), .string (mkS x)] w (PostW T0 last wrong B p X oN st w (takeP last wrong x st)) := by
  obtain ⟨i, h, hk⟩ := h
  have cT := Lib.hid (rvText hT.tl h)
  have hM := Lib.hid (fun (W : World) (hb : Below w.heap.size w W) => h.below hb)
  have hBs := Lib.hid h.lt.2.1
  obtain ⟨c9, -⟩ := h.cell_cd
  have hbt := (hT.byt i).1
  have htx := hk.tx
  by_cases he : st.tx = x
  case pos =>
    have hb2 : ((mkS (txA T0 i)).toList == (mkS x).toList) = true := by rw [← htx, he]; simp
    have hr : takeP last wrong x st = .ok () st.on := by unfold takeP; rw [if_pos he]
    have hne2 := hk.ne (by rw [he]; exact hne)
    have hk2 := Lib.hid (hk.on hne2)
    have hil := hk.il
    have hTl := hT.tl
    have hw1 : wrap64 ((i : Int) + 1) = (i : Int) + 1 := w64_in _ (by omega)
    rw [hr]
    obtain ⟨tk, htk⟩ : ∃ k, k = mkS (txA T0 i) := ⟨_, rfl⟩
    rw [← htk] at hb2 cT
    replace htk := Lib.hid htk
    replace hne := Lib.hid hne
    clear h hr hk hne2 he htx hbt
    go_enter Tryz.func32, Tryz.ntmps32
    go_wp2_with fail
    refine cT.out.mono ?_
    rintro en w1 ⟨rfl, hdr⟩
    have h1 := hM.out _ (hdr.below _)
    have hB1 := Lib.hid (hdr.below B)
    obtain ⟨c3, f3⟩ := h1.cell_i
    replace h1 := Lib.hid h1
    clear hdr
    go_wp2_with fail
    go_end0
    exact ⟨rfl, ⟨_, h1.out.set_i (i + 1), hk2.out⟩, hB1.out.trans (h1.out.setB 3 _)⟩
  case neg =>
    have hb2 : ((mkS (txA T0 i)).toList == (mkS x).toList) = false := by rw [mkS_ne hbt hx, ← htx]; exact decide_eq_false he
    have hr : takeP last wrong x st = unwP last wrong st := by unfold takeP; rw [if_neg he]
    rw [hr]
    rcases hu : (unwP last wrong st : PR Unit) with ⟨v, st1⟩ | ⟨a, c⟩
    case ok => exact (unwP_ok hu).elim
    have cU := Lib.hid (fun (W : World) (hb : Below w.heap.size w W) => rvWant hT (h.below hb) hk hu)
    obtain ⟨tk, htk⟩ : ∃ k, k = mkS (txA T0 i) := ⟨_, rfl⟩
    rw [← htk] at hb2 cT
    replace htk := Lib.hid htk
    replace hne := Lib.hid hne
    clear h hr hk hu he htx hbt
    go_enter Tryz.func32, Tryz.ntmps32
    go_wp2_with fail
    refine cT.out.mono ?_
    rintro en w1 ⟨rfl, hdr⟩
    have hB1 := Lib.hid (hdr.below w.heap.size)
    clear hdr
    go_wp2_with fail
    refine (cU.out _ hB1.out).mono ?_
    rintro en w2 ⟨rfl, h2, hB2, hc⟩
    replace h2 := Lib.hid h2
    replace hc := Lib.hid hc
    replace hB2 := Lib.hid ((hB1.out.mono hBs.out).trans hB2)
    go_wp2_with fail
    go_end0
    exact ⟨rfl, h2.out, hB2.out, hc.out⟩
set_option maxRecDepth 100000 in
/-- take, behind a fault -/
theorem rvTake1 (hT : TkOk T0 last) (hcd : cd ≠ 0) (x : List Nat) (h : RvM T0 last wrong B p X o i N H U wh cd w) :
    Calls Tryz.prog 32 #[.pointer (some ⟨p, 0, none⟩), .string (mkS x)] w (fun e w' => e = .returned (.tuple #[]) ∧ Below w.heap.size w w') := by
  have cU := Lib.hid (rvWant1 hT hcd h)
  obtain ⟨c9, -⟩ := h.cell_cd
  have hcI : ((cd : Int) == 0) = false := k_ne (b := 0) hcd
  clear h hcd
  go_enter Tryz.func32, Tryz.ntmps32
  go_wp2_with fail
  refine cU.out.mono ?_
  rintro en w2 ⟨rfl, h2⟩
  replace h2 := Lib.hid h2
  go_wp2_with fail
  go_end0
  exact ⟨rfl, h2.out⟩
theorem encL_get (l : List (List Nat × Nat)) {k : Nat} (hk : k < l.length) : (l.flatMap encL)[2 * k]? = some (.string (mkS l[k].1)) := by
  induction l generalizing k with
  | nil => exact absurd hk (Nat.not_lt_zero _)
  | cons a l ih =>
    rcases k with _ | k
    · rfl
    · have := ih (k := k) (by simpa using hk)
      simp only [List.flatMap_cons, encL, List.cons_append, List.nil_append, List.getElem_cons_succ]
      rw [show 2 * (k + 1) = 2 * k + 1 + 1 from by omega]
      simp only [List.getElem?_cons_succ]
      exact this
theorem RvM.lets (h : RvM T0 last wrong B p X o i N H U wh cd w) : ∃ A c, w.cell? ⟨p, 7, none⟩ = some (.slice A U.length c) ∧ (∀ (k : Nat) (hk : k < U.length), ∃ g, A = some ⟨g, 0, none⟩ ∧ w.cell? ⟨g, k * 2, none⟩ = some (.string (mkS U[k].1))) := by
  obtain ⟨vT, vN, vH, vL, h1, h2⟩ := h
  have hb : Blk w p 47 (rvC vT wrong last i o vN vH vL wh cd) := h1.1 _ (List.mem_cons_self ..)
  have hr : w.ownsRow B 54 2 vL U.length (U.flatMap encL) := h1.1 (itRow B 54 2 vL U.length (U.flatMap encL)) (by simp)
  obtain ⟨A, c, rfl, -, hA⟩ := own_form hr
  refine ⟨A, c, hb.cell 7, fun k hk => ?_⟩
  obtain ⟨g, rfl⟩ := hA (by omega)
  refine ⟨g, rfl, ?_⟩
  rw [World.ownsRow.cellAt hr (k * 2) (by omega), Nat.mul_comm k 2]
  exact encL_get U hk
theorem mem_drop_step {l : List (List Nat × Nat)} {t : List Nat} {j : Nat} (hj : j < l.length) (hne : l[j].1 ≠ t) : decide (t ∈ (l.drop j).map (·.1)) = decide (t ∈ (l.drop (j + 1)).map (·.1)) := by
  rw [List.drop_eq_getElem_cons hj, List.map_cons]
  refine decide_eq_decide.2 ⟨fun h => ?_, fun h => List.mem_cons_of_mem _ h⟩
  rcases List.mem_cons.1 h with h | h
  · exact absurd h.symm hne
  · exact h
set_option maxRecDepth 100000 in
/-- named -/
theorem rvNamed (t : List Nat) (ht : Byt t) (hk : RvOk T0 i st) (hT : TkOk T0 last) (h : RvM T0 last wrong B p X o i N H st.L wh cd w) :
    Calls Tryz.prog 29 #[.pointer (some ⟨p, 0, none⟩), .string (mkS t)] w (fun e w' => e = .returned (.bool (decide (t ∈ st.names))) ∧ w' = w) := by
  obtain ⟨A, c, c7, hc⟩ := h.lets
  obtain ⟨R, hR⟩ : ∃ r, r = decide (t ∈ st.names) := ⟨_, rfl⟩
  rw [← hR]
  have hR0 : Hid (R = decide (t ∈ (st.L.drop 0).map (·.1))) := Lib.hid (by rw [hR]; rfl)
  have hnm := Lib.hid hk.nams
  have hL : st.L.length ≤ 16384 := by have := hk.lets; have := hk.il; have := hT.tl; omega
  obtain ⟨n, hn⟩ : ∃ n, n = st.L.length := ⟨_, rfl⟩
  rw [← hn] at c7 hL
  replace hn := Lib.hid hn
  replace hR := Lib.hid hR
  replace hc := Lib.hid hc
  clear h hk hT
  go_enter Tryz.func29, Tryz.ntmps29
  go_wp2_with fail
  go_loopg [5] n (fun kx v wr => ∃ j : Nat, v = .int .i64 (j : Int) ∧ w = wr ∧ j + kx = n ∧ Hid (R = decide (t ∈ (st.L.drop j).map (·.1))))
  case atStart => exact ⟨0, rfl, rfl, by omega, hR0⟩
  case round =>
    obtain ⟨j, rfl, rfl, hg, hRj⟩ := hrel
    by_cases hj : j < n
    case neg =>
      have hjI : ¬ (j : Int) < (n : Int) := by omega
      have e : R = false := by
        rw [hRj.out, List.drop_eq_nil_of_le (by have := hn.out; omega)]; rfl
      subst e
      clear hj hg
      go_wp2_with fail
      go_ret
      exact ⟨rfl, rfl⟩
    case pos =>
      have hjI : (j : Int) < (n : Int) := by omega
      have hj2 : j < st.L.length := by have := hn.out; omega
      obtain ⟨g, rfl, k1⟩ := hc.out j hj2
      obtain ⟨u, hu⟩ : ∃ u, u = st.L[j].1 := ⟨_, rfl⟩
      have hbu : Byt u := hnm.out u (by rw [hu]; exact List.mem_map_of_mem (List.getElem_mem hj2))
      rw [← hu] at k1
      have hmk := mkS_ne hbu ht
      have hw1 : wrap64 ((j : Int) + 1) = (j : Int) + 1 := w64_in _ (by omega)
      by_cases he : u = t
      · have hb2 : ((mkS u).toList == (mkS t).toList) = true := by rw [hmk]; exact decide_eq_true he
        have e : R = true := by
          rw [hRj.out, List.drop_eq_getElem_cons hj2, List.map_cons, ← hu, he]
          exact decide_eq_true (List.mem_cons_self ..)
        subst e
        replace hu := Lib.hid hu
        clear he hmk hg
        go_wp2_with fail
        go_ret
        exact ⟨rfl, rfl⟩
      · have hb2 : ((mkS u).toList == (mkS t).toList) = false := by rw [hmk]; exact decide_eq_false he
        have hRn : Hid (R = decide (t ∈ (st.L.drop (j + 1)).map (·.1))) := Lib.hid (by rw [hRj.out, mem_drop_step hj2 (by rw [← hu]; exact he)])
        replace hu := Lib.hid hu
        replace hg := Lib.hid hg
        clear he hmk
        go_wp2_with fail
        go_roundg (n - (j + 1))
        case measure => have := hg.out; omega
        case rel => exact ⟨j + 1, (by first | rfl | (rw [hw1]; rfl)), rfl, by omega, hRn⟩
end
end Go.Proofs.YtnaadajcehfmiaaGreatDoor
