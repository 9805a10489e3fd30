/- filigreelaw11.LangFront. -/
import Derived.Test.YtnaadajcehfmiaaDoorLtB
import Derived.Test.YtnaadajcehfmiaaDoorLpH
namespace Go.Proofs.YtnaadajcehfmiaaDoor
open Go.RowKit Go.Sort Go.Maps
attribute [local go_sem] Oper.semAt_some

theorem told_told2 {s : List Nat} {xs : List (Tok × Nat)} (h : toldT s xs) : toldT2 s xs := fun hl => by
  rcases h with ⟨h1, _⟩ | ⟨_, T, l, b, h2, h3⟩
  · omega
  · exact ⟨T, l, b, h2, h3⟩
theorem told_ex (s : List Nat) (hl : s.length ≤ 16384) : ∃ xs, toldT s xs ∧ xs.length ≤ 16385 ∧ ∀ x, x ∈ xs → x.1.at_ ≤ 16384 ∧ x.1.text.length ≤ 16384 := by
  obtain ⟨T, l, b, h, hT⟩ := Lx.ex s.length 0 (Nat.zero_le _) (Nat.le_refl _)
  have hla := h.last
  refine ⟨_, .inr ⟨hl, T, l, b, h, rfl⟩, ?_, fun x hx => ?_⟩
  · unfold toldR
    rw [List.length_append, List.length_map]
    have : (if b then [((⟨l, []⟩ : Tok), 110)] else []).length ≤ 1 := by cases b <;> simp
    omega
  · unfold toldR at hx
    rcases List.mem_append.1 hx with hx | hx
    · obtain ⟨t, ht, rfl⟩ := List.mem_map.1 hx
      have := h.ne t ht
      show t.at_ ≤ 16384 ∧ t.text.length ≤ 16384
      omega
    · cases b
      · cases hx
      · rw [List.mem_singleton.1 hx]
        show l ≤ 16384 ∧ ([] : List Nat).length ≤ 16384
        simp; omega
theorem endF_le {a : Nat} : ∀ (xs : List (Tok × Nat)) (e : Nat), (∀ x, x ∈ xs → x.1.at_ ≤ 16384 ∧ x.1.text.length ≤ 16384) → e ≤ 32768 → endF a xs e ≤ 32768
  | [], _, _, h => h
  | x :: xs, e, hx, h => by
    have h1 := hx x (by simp)
    exact endF_le xs _ (fun y hy => hx y (by simp [hy])) (show (if x.1.at_ ≤ a then x.1.at_ + x.1.text.length else e) ≤ 32768 by split <;> omega)
theorem endF_snoc (a : Nat) (xs : List (Tok × Nat)) (x : Tok × Nat) (e : Nat) : endF a (xs ++ [x]) e = if x.1.at_ ≤ a then x.1.at_ + x.1.text.length else endF a xs e := by
  rw [endF_app]; rfl
theorem sl_app (s t : ByteArray) : sl (s ++ t) = sl s ++ sl t := by simp [sl]
theorem sl_take (s : ByteArray) (e : Nat) : sl (s.extract 0 e) = (sl s).take e := by
  have h := extract_cut s 0 e
  rw [h, sl_mkS byt_cut]
  simp [cutL]
theorem parseF_no_le {s : List Nat} {a c : Nat} (h : parseF s = .no a c) (hc : c ≠ 4) : s.length ≤ 16384 := by
  rcases parseF_ok s with ⟨_, h1⟩ | ⟨h1, _⟩
  · rw [h] at h1
    injection h1 with _ h1
    exact absurd h1 hc
  · exact h1
theorem j_eq {a b : Nat} (h : a = b) : ((a : Int) == (b : Int)) = true := by rw [h]; simp
theorem j_ne {a b : Nat} (h : a ≠ b) : ((a : Int) == (b : Int)) = false := by rw [beq_eq_false_iff_ne]; omega
set_option maxRecDepth 100000 in
set_option maxHeartbeats 16000000 in
/-- LangFront -/
theorem langFront_any {s mo : ByteArray} {w : World} (hs : s.size ≤ 140737488351232) (hm : mo.size ≤ 140737488351232) (hE : EnvL w) :
    Calls Tryd.prog 4 #[.string s, .string mo] w (RetVal (.bool true) w) := by
  obtain ⟨pr, hpr⟩ : ∃ r, r = parseF (sl s) := ⟨_, rfl⟩
  have cP := Lib.hid (lParse_any s w (by omega) hE.e1 hE.e2 pr (by rw [hpr]; exact parseF_ok _))
  have hlen := Lib.hid (sl_len s)
  have hlem := Lib.hid (sl_len mo)
  have hsZ : (s.size : Int) ≤ 140737488351232 := by omega
  replace hs := Lib.hid hs
  replace hm := Lib.hid hm
  have hE0 := Lib.hid hE
  clear hE hsZ
  refine callsIn_wide.1 (callsIn_of_wp_marks (n := 0) Tryd.func4 rfl trivial ?_ rfl)
  simp only [Tryd.ntmps4, List.size_toArray, List.length_cons, List.length_nil, Nat.reduceAdd, Nat.reduceSub, Array.replicate_succ, Array.replicate_zero, List.push_toArray, List.append_toArray, List.nil_append, List.cons_append]
  refine wpIn_wide.2 ?_
  go_wp2_with fail
  refine Calls.mono cP.out ?_
  intro en w1 hret
  clear cP
  rcases pr with ⟨k, st⟩ | ⟨a, c⟩
  case no =>
    obtain ⟨⟨q, rfl, hq1, hq2⟩, hb⟩ := hret
    replace hq1 := Lib.hid hq1
    replace hq2 := Lib.hid hq2
    replace hpr := Lib.hid hpr
    replace hb := Lib.hid hb
    have ba := ((Below.refl w1.heap.size w1).alloc (Nat.le_refl _) (.cells #[.slice none 0 0, .slice none 0 0, .int .i64 0] 25)).alloc (by simp) (.cells #[.pointer (some ⟨q, 0, none⟩)] 29)
    have k60 := Blk.new (w1.alloc (.cells #[.slice none 0 0, .slice none 0 0, .int .i64 0] 25)) 29 #[.pointer (some ⟨q, 0, none⟩)]
    rw [World.size_alloc] at k60
    have k6 := Lib.hid k60
    have hb2 := Lib.hid (hb.out.trans (ba.mono hb.out.size))
    have kq := Lib.hid (Blk.below hq2.out ba)
    have hq6 : Hid (q < w1.heap.size + 1) := Lib.hid (by have := Blk.lt hq2.out; omega)
    clear ba k60 hq2 hb hq1
    go_upto_region 2 with fail
    generalize hWa : (w1.alloc (.cells #[.slice none 0 0, .slice none 0 0, .int .i64 0] 25)).alloc (.cells #[.pointer (some ⟨q, 0, none⟩)] 29) = w2 at k6 hb2 kq ⊢
    generalize hqa : w1.heap.size + 1 = b6 at k6 hq6 ⊢
    generalize hqb : w1.heap.size = b5
    replace hWa := Lib.hid hWa
    replace hqa := Lib.hid hqa
    replace hqb := Lib.hid hqb
    have x6 : w2.cell? ⟨b6, 0, none⟩ = some (.pointer (some ⟨q, 0, none⟩)) := k6.out.cell 0
    have xq0 : w2.cell? ⟨q, 0, none⟩ = some (.int .i64 (a : Int)) := kq.out.cell 0
    have xq1 : w2.cell? ⟨q, 1, none⟩ = some (.int .i64 (c : Int)) := kq.out.cell 1
    have cA := Lib.hid (lgawake_any (hE0.out.below hb2.out))
    by_cases hc : c = 110
    case pos =>
      have hI1 : ((c : Int) == 110) = true := j_eq hc
      clear hc
      go_wp2_with fail
      refine Calls.mono cA.out ?_
      rintro en w9 ⟨rfl, hb⟩
      have hb9 := Lib.hid (hb2.out.trans (hb.mono hb2.out.size))
      clear hb cA
      go_wp2_with fail
      exact ⟨.bool true, by simp [results, Tryd.results4, go_sem], rfl, hb9.out⟩
    case neg =>
      have hI1 : ((c : Int) == 110) = false := j_ne (b := 110) hc
      have hc110 := Lib.hid hc
      clear hc
      by_cases hc : c = 4
      case pos =>
        have hI2 : ((c : Int) == 4) = true := j_eq hc
        clear hc
        go_wp2_with fail
        refine Calls.mono cA.out ?_
        rintro en w9 ⟨rfl, hb⟩
        have hb9 := Lib.hid (hb2.out.trans (hb.mono hb2.out.size))
        clear hb cA
        go_wp2_with fail
        exact ⟨.bool true, by simp [results, Tryd.results4, go_sem], rfl, hb9.out⟩
      case neg =>
        have hI2 : ((c : Int) == 4) = false := j_ne (b := 4) hc
        have hc4 := Lib.hid hc
        clear hc
        by_cases hc : s.size ≤ a
        case pos =>
          have hI3 : ((a : Int) ≥ (s.size : Int)) := by omega
          clear hc
          go_wp2_with fail
          refine Calls.mono cA.out ?_
          rintro en w9 ⟨rfl, hb⟩
          have hb9 := Lib.hid (hb2.out.trans (hb.mono hb2.out.size))
          clear hb cA
          go_wp2_with fail
          exact ⟨.bool true, by simp [results, Tryd.results4, go_sem], rfl, hb9.out⟩
        case neg =>
          have hI3 : ¬ ((a : Int) ≥ (s.size : Int)) := by omega
          have has := Lib.hid hc
          clear hc
          have hsl := Lib.hid (parseF_no_le hpr.out.symm hc4.out)
          obtain ⟨xs, hxs, hxl, hxb⟩ := told_ex (sl s) hsl.out
          have ha14 : Hid (a ≤ 16384) := Lib.hid (by have := hsl.out; have := hlen.out; have := has.out; omega)
          replace hxs := Lib.hid hxs
          replace hxl := Lib.hid hxl
          replace hxb := Lib.hid hxb
          have ba := (Below.refl w2.heap.size w2).alloc (Nat.le_refl _) (.cells #[.int .i64 (a : Int)] 3)
          have kn := Lib.hid (Blk.new w2 3 #[.int .i64 (a : Int)])
          have hb3 := Lib.hid (hb2.out.trans (ba.mono hb2.out.size))
          have hn0 : Hid (w.heap.size ≤ w2.heap.size) := Lib.hid hb2.out.size
          have hn6 : Hid (b6 < w2.heap.size) := Lib.hid (Blk.lt k6.out)
          have hnq : Hid (q < w2.heap.size) := Lib.hid (Blk.lt kq.out)
          replace k6 := Lib.hid (Blk.below k6.out ba)
          replace kq := Lib.hid (Blk.below kq.out ba)
          clear ba cA hb2
          go_upto_region 6 with fail
          generalize hWb : w2.alloc (.cells #[.int .i64 (a : Int)] 3) = w3 at kn hb3 k6 kq ⊢
          generalize hqc : w2.heap.size = bn at kn hn0 hn6 hnq ⊢
          replace hWb := Lib.hid hWb
          replace hqc := Lib.hid hqc
          clear x6 xq0 xq1
          have hnil := fun (W : World) (f : Fn) (ts lb : Array Value) => eql_fn_nil (P := Tryd.prog) W Tryd.underlying45 f ts lb
          go_wp2_with fail
          refine (lTokens_any _ _).mono ?_
          rintro en w4 ⟨rfl, rfl⟩
          have ba := (Below.refl w3.heap.size w3).alloc (Nat.le_refl _) (.cells #[.string s] 9)
          have hb4 := Lib.hid (hb3.out.trans (ba.mono hb3.out.size))
          have hg3 : Hid (bn < w3.heap.size) := Lib.hid (Blk.lt kn.out)
          replace kn := Lib.hid (Blk.below kn.out ba)
          replace k6 := Lib.hid (Blk.below k6.out ba)
          replace kq := Lib.hid (Blk.below kq.out ba)
          clear ba hb3
          generalize hWc : w3.alloc (.cells #[.string s] 9) = w4 at kn hb4 k6 kq ⊢
          replace hWc := Lib.hid hWc
          generalize hqd : w3.heap.size = gi0 at hg3 ⊢
          replace hqd := Lib.hid hqd
          go_wp2_with fail
          refine (lTokens_any _ _).mono ?_
          rintro en w5 ⟨rfl, rfl⟩
          have ba := (Below.refl w4.heap.size w4).alloc (Nat.le_refl _) (.cells #[.string s] 9)
          have hb6 := Lib.hid (hb4.out.trans (ba.mono hb4.out.size))
          have hng : Hid (bn < w4.heap.size) := Lib.hid (Blk.lt kn.out)
          replace kn := Lib.hid (Blk.below kn.out ba)
          replace k6 := Lib.hid (Blk.below k6.out ba)
          replace kq := Lib.hid (Blk.below kq.out ba)
          have kg := Lib.hid (Blk.new w4 9 #[.string s])
          clear ba hb4 hnil
          generalize hWd : w4.alloc (.cells #[.string s] 9) = w6 at kn hb6 k6 kq kg ⊢
          replace hWd := Lib.hid hWd
          generalize hqe : w4.heap.size = gi at hng kg ⊢
          replace hqe := Lib.hid hqe
          go_wp2_with fail
          have hgi := Blk.lt kg.out
          have hbn := Blk.lt kn.out
          refine (wpIn_wide (n := 0)).1 ?_
          refine wpIn_iterB (gf := 16) (lb := #[.pointer (some ⟨gi, 0, none⟩)]) rfl (enters_of Tryd.func16 (by kernel_rfl) rfl) (lTokens_iter gi s (by have := hs.out; omega) w6 kg.out xs hxs.out) (Below.refl _ _) (fun k hk => by rw [hk]; exact hgi) (fun _ => rfl)
            (fun _ pre W => But (fun k => k = bn) w6 W ∧ Blk W bn 3 #[.int .i64 (endF a pre a : Int)]) (fun _ _ _ _ => False)
            (fun m s A B h ho => ⟨but_oB h.1 (Nat.le_refl _) ho, blk_oB h.2 hbn ho⟩) (fun _ _ _ _ _ h _ => h) (fun _ => ⟨But.refl _ _, kn.out⟩) ?rd ?dn ?st
          case st => intro m c pre W' _ h; exact h.elim
          case rd =>
            intro m l pre x W ⟨hg, hk⟩ hsz hpre K hK
            have hx9 := hxb.out x (hpre.subset (by simp))
            simp only [encTk]
            try dsimp only
            have hpb := endF_le (a := a) pre a (fun y hy => hxb.out y (hpre.subset (by simp [hy]))) (by have := ha14.out; omega)
            have hes := endF_snoc a pre x a
            obtain ⟨xa, hxa⟩ : ∃ n, n = x.1.at_ := ⟨_, rfl⟩
            obtain ⟨xt, hxt⟩ : ∃ n, n = x.1.text := ⟨_, rfl⟩
            obtain ⟨ep, hep⟩ : ∃ n, n = endF a pre a := ⟨_, rfl⟩
            rw [← hxa, ← hxt] at hx9 hes ⊢
            rw [← hep] at hk hpb hes
            have hts : ((mkS xt).size : Int) = (xt.length : Int) := by rw [mkS_size]
            have hw1 : wrap64 ((xa : Int) + (xt.length : Int)) = (xa : Int) + (xt.length : Int) := wr64_in _ (by omega)
            replace hK := Lib.hid hK
            replace hg := Lib.hid hg
            replace hpre := Lib.hid hpre
            replace hk := Lib.hid hk
            replace hxa := Lib.hid hxa
            replace hxt := Lib.hid hxt
            replace hep := Lib.hid hep
            replace hes := Lib.hid hes
            replace hx9 := Lib.hid hx9
            replace hpb := Lib.hid hpb
            gi_wp2_with fail
            refine hK.out _ _ ((KeepB.refl _ W).alloc (fun k hk => by rcases hk with h | h <;> omega) _) ?_
            intro o
            have xp := Blk.new W 48 #[.int .i64 (xa : Int), .string (mkS xt)]
            have xk := Blk.alloc hk.out (.cells #[.int .i64 (xa : Int), .string (mkS xt)] 48)
            have xp2 : Blk ((W.alloc (.cells #[.int .i64 (xa : Int), .string (mkS xt)] 48)).putObj (w6.heap.size + 1) o) W.heap.size 48 #[.int .i64 (xa : Int), .string (mkS xt)] := (World.putObj_heap_other (by omega)).trans xp
            have xk2 : Blk ((W.alloc (.cells #[.int .i64 (xa : Int), .string (mkS xt)] 48)).putObj (w6.heap.size + 1) o) bn 3 #[.int .i64 (ep : Int)] := (World.putObj_heap_other (by omega)).trans xk
            have hg2 : But (fun k => k = bn) w6 ((W.alloc (.cells #[.int .i64 (xa : Int), .string (mkS xt)] 48)).putObj (w6.heap.size + 1) o) := but_oB hg.out (Nat.le_refl _) (((OutB.refl w6.heap.size (w6.heap.size + 2) W).alloc _).put (by omega) (by omega) o)
            have hXs : w6.heap.size + 2 + m ≤ ((W.alloc (.cells #[.int .i64 (xa : Int), .string (mkS xt)] 48)).putObj (w6.heap.size + 1) o).heap.size := by simp; omega
            generalize hWp : (W.alloc (.cells #[.int .i64 (xa : Int), .string (mkS xt)] 48)).putObj (w6.heap.size + 1) o = X at xp2 xk2 hg2 hXs ⊢
            generalize hgp : W.heap.size = gp at xp2 ⊢
            clear hWp hK hg hpre hk xp xk
            have y6 := (hg2.block b6 (Blk.lt k6.out) (show b6 ≠ bn by have := hn6.out; omega)).trans k6.out
            have yq := (hg2.block q (Blk.lt kq.out) (show q ≠ bn by have := hnq.out; omega)).trans kq.out
            have r6 : ∀ d os, (grow (redrawn X d) os).cell? ⟨b6, 0, none⟩ = some (.pointer (some ⟨q, 0, none⟩)) := cell_regrown (Blk.cell y6 0)
            have rq : ∀ d os, (grow (redrawn X d) os).cell? ⟨q, 0, none⟩ = some (.int .i64 (a : Int)) := cell_regrown (Blk.cell yq 0)
            have rp : ∀ d os, (grow (redrawn X d) os).cell? ⟨gp, 0, none⟩ = some (.int .i64 (xa : Int)) := cell_regrown (xp2.cell 0)
            have hgpX := Blk.lt xp2
            replace hgp := Lib.hid hgp
            replace xp2 := Lib.hid xp2
            replace xk2 := Lib.hid xk2
            replace hg2 := Lib.hid hg2
            replace y6 := Lib.hid y6
            replace yq := Lib.hid yq
            replace hXs := Lib.hid hXs
            replace hgpX := Lib.hid hgpX
            replace hsz := Lib.hid hsz
            gi_wp2_with fail
            refine wpIn_region_quiet_round (by kernel_rfl) (by kernel_rfl) (by kernel_rfl) ?_
            iterate 7 (quiet_step (fail))
            refine wpQuiet_nil ?_
            intro Y hw'
            have hb : Below X.heap.size X Y := by
              obtain ⟨q, rfl⟩ := hw'
              exact below_regrown X q.d q.os
            clear hw' r6 rq rp
            have yp := Blk.below xp2.out hb
            have yk := Blk.below xk2.out hb
            have p0 : Y.cell? ⟨gp, 0, none⟩ = some (.int .i64 (xa : Int)) := yp.cell 0
            have p1 : Y.cell? ⟨gp, 1, none⟩ = some (.string (mkS xt)) := yp.cell 1
            have n0 : Y.cell? ⟨bn, 0, none⟩ = some (.int .i64 (ep : Int)) := yk.cell 0
            have n1 := yk.frozen 0
            have hgY := hg2.out.below hb
            have hkY := (KeepB.refl (fun k => k = gi ∨ w6.heap.size ≤ k ∧ k < w6.heap.size + 2 + m) X).below (n := X.heap.size) hb (fun k hk => by have := hXs.out; rcases hk with h | h <;> omega)
            by_cases hxc : xa ≤ a
            case pos =>
              have hJ : (xa : Int) ≤ (a : Int) := by omega
              have ee : Hid (endF a (pre ++ [x]) a = xa + xt.length) := Lib.hid (by rw [hes.out, if_pos hxc])
              have zk : Hid (Blk (Y.setCell ⟨bn, 0, none⟩ (.int .i64 ((xa : Int) + (xt.length : Int)))) bn 3 #[.int .i64 (endF a (pre ++ [x]) a : Int)]) := Lib.hid (by rw [ee.out]; push_cast; exact yk.set_ 0 _)
              have zg := Lib.hid (hgY.setCell (p := ⟨bn, 0, none⟩) (.inl rfl) (.int .i64 ((xa : Int) + (xt.length : Int))))
              have zkp := Lib.hid (hkY.setCell (p := ⟨bn, 0, none⟩) (show ¬ (bn = gi ∨ w6.heap.size ≤ bn ∧ bn < w6.heap.size + 2 + m) by have := hng.out; omega) (.int .i64 ((xa : Int) + (xt.length : Int))))
              clear hxc yp yk hgY hkY hb
              gi_wp2_with fail
              exact ⟨zkp.out, zg.out, zk.out⟩
            case neg =>
              have hJ : ¬ (xa : Int) ≤ (a : Int) := by omega
              have ee : Hid (endF a (pre ++ [x]) a = ep) := Lib.hid (by rw [hes.out, if_neg hxc])
              replace yk := Lib.hid yk
              replace hgY := Lib.hid hgY
              replace hkY := Lib.hid hkY
              clear hxc yp hb
              gi_wp2_with fail
              exact ⟨hkY.out, hgY.out, by rw [ee.out]; exact yk.out⟩
          case dn =>
            rintro m W ⟨hg, hk⟩ hMk
            dsimp only
            have hB7 := Lib.hid (hb6.out.trans (hg.toBelow hb6.out.size (fun k hk e => by have := hn0.out; omega)))
            have y6 := (hg.block b6 (Blk.lt k6.out) (show b6 ≠ bn by have := hn6.out; omega)).trans k6.out
            have yq := (hg.block q (Blk.lt kq.out) (show q ≠ bn by have := hnq.out; omega)).trans kq.out
            have hpb := endF_le (a := a) xs a hxb.out (by have := ha14.out; omega)
            obtain ⟨ee, hee⟩ : ∃ n, n = endF a xs a := ⟨_, rfl⟩
            rw [← hee] at hk hpb
            have x6 : W.cell? ⟨b6, 0, none⟩ = some (.pointer (some ⟨q, 0, none⟩)) := Blk.cell y6 0
            have xq0 : W.cell? ⟨q, 0, none⟩ = some (.int .i64 (a : Int)) := Blk.cell yq 0
            have xq1 : W.cell? ⟨q, 1, none⟩ = some (.int .i64 (c : Int)) := Blk.cell yq 1
            have xn : W.cell? ⟨bn, 0, none⟩ = some (.int .i64 (ee : Int)) := hk.cell 0
            have hMk2 := Lib.hid hMk
            have hDlt := Lib.hid (Array.getElem?_eq_some_iff.1 hMk).1
            have hw6 : Hid (w.heap.size ≤ w6.heap.size) := Lib.hid hb6.out.size
            have cA := Lib.hid (lgawake_any (hE0.out.below hB7.out))
            replace y6 := Lib.hid y6
            replace yq := Lib.hid yq
            replace hpb := Lib.hid hpb
            replace hee := Lib.hid hee
            clear hg hk hMk hgi hbn kn k6 kq kg hb6 hn6 hnq hn0 hng hg3 hWa hWb hWc hWd hqa hqb hqc hqd hqe
            generalize hDg : w6.heap.size = D1 at hMk2 hDlt hw6 ⊢
            clear hDg
            by_cases hc : c = 114
            case pos =>
              have hI4 : ((c : Int) == 114) = true := j_eq hc
              clear hc
              go_wp2_with fail
              refine Calls.mono cA.out ?_
              rintro en w9 ⟨rfl, hb⟩
              have hb9 := Lib.hid (hB7.out.trans (hb.mono hB7.out.size))
              have hMk9 := Lib.hid ((hb.block D1 hDlt.out).trans hMk2.out)
              clear hb cA
              go_wp2_with fail
              refine lv_one hMk9.out (P := Tryd.prog) (fn := Tryd.f4) (v := .bool true) (by simp [results, Tryd.results4, go_sem]) ⟨rfl, bl_put hb9.out hw6.out _⟩
            case neg =>
              have hI4 : ((c : Int) == 114) = false := j_ne (b := 114) hc
              obtain ⟨e0, hfr⟩ := front (byt_sl s) hpr.out.symm ⟨hc4.out, hc, hc110.out⟩ (by have := hlen.out; have := has.out; omega) (told_told2 hxs.out)
              have he0 : e0 = ee := by rw [← hfr.ee, hee.out]
              subst he0
              have hes : e0 ≤ s.size := by have := hfr.le; have := hlen.out; omega
              have hesI : ¬ ((e0 : Int) > (s.size : Int)) := by omega
              have hesJ : (e0 : Int) ≤ (s.size : Int) := by omega
              have hez : (s.extract 0 e0).size = e0 := by simp; omega
              have hmm := hm.out
              have hpp := hpb.out
              have hw1 : wrap64 ((e0 : Int) + 1) = (e0 : Int) + 1 := wr64_in _ (by omega)
              have hw2 : wrap64 ((e0 : Int) + 1 + (mo.size : Int)) = (e0 : Int) + 1 + (mo.size : Int) := wr64_in _ (by omega)
              clear hc hmm hpp
              replace hes := Lib.hid hes
              replace hfr := Lib.hid hfr
              go_upto_region 14 with fail
              go_wp2_with fail
              · skip
                refine Calls.mono cA.out ?_
                rintro en w9 ⟨rfl, hb⟩
                have hb9 := Lib.hid (hB7.out.trans (hb.mono hB7.out.size))
                have hMk9 := Lib.hid ((hb.block D1 hDlt.out).trans hMk2.out)
                clear hb cA
                go_wp2_with fail
                refine lv_one hMk9.out (P := Tryd.prog) (fn := Tryd.f4) (v := .bool true) (by simp [results, Tryd.results4, go_sem]) ⟨rfl, bl_put hb9.out hw6.out _⟩
              · skip
                have cP2 := Lib.hid (lParse_any (s.extract 0 e0 ++ ⟨#[32]⟩ ++ mo) W (by
                    have h1 : (s.extract 0 e0 ++ ⟨#[32]⟩ ++ mo).size = e0 + 1 + mo.size := by rw [ByteArray.size_append, ByteArray.size_append, hez]; rfl
                    omega) (hE0.out.below hB7.out).e1 (hE0.out.below hB7.out).e2 (.no a c) (by
                    have e1 : sl (s.extract 0 e0 ++ ⟨#[32]⟩ ++ mo) = (sl s).take e0 ++ 32 :: sl mo := by
                      rw [sl_app, sl_app, sl_take, List.append_assoc]; rfl
                    have e2 := hfr.out.other (sl mo) (byt_sl mo) (by
                      have := hes.out
                      have := hlen.out
                      have := hlem.out
                      rw [List.length_append, List.length_take, List.length_cons]; omega)
                    rw [e1, ← e2]
                    exact parseF_ok _))
                have hlm : e0 + 1 + mo.size ≤ 16384 := by omega
                refine Calls.mono cP2.out ?_
                rintro en w8 ⟨⟨q2, rfl, hq1, hq2⟩, hb⟩
                have ba := (Below.refl w8.heap.size w8).alloc (Nat.le_refl _) (.cells #[.slice none 0 0, .slice none 0 0, .int .i64 0] 25)
                have hB8 := Lib.hid ((hB7.out.trans (hb.mono hB7.out.size)).trans (ba.mono (Nat.le_trans hB7.out.size hb.size)))
                have hMk8 := Lib.hid ((((Below.refl w8.heap.size w8).alloc (Nat.le_refl _) (.cells #[.slice none 0 0, .slice none 0 0, .int .i64 0] 25)).block D1 (Nat.lt_of_lt_of_le hDlt.out hb.size)).trans ((hb.block D1 hDlt.out).trans hMk2.out))
                have k68 : Blk (w8.alloc (.cells #[.slice none 0 0, .slice none 0 0, .int .i64 0] 25)) b6 29 #[.pointer (some ⟨q, 0, none⟩)] := Blk.below (Blk.below y6.out hb) ba
                have kq8 : Blk (w8.alloc (.cells #[.slice none 0 0, .slice none 0 0, .int .i64 0] 25)) q 43 #[.int .i64 (a : Int), .int .i64 (c : Int)] := Blk.below (Blk.below yq.out hb) ba
                have kr8 : Blk (w8.alloc (.cells #[.slice none 0 0, .slice none 0 0, .int .i64 0] 25)) q2 43 #[.int .i64 (a : Int), .int .i64 (c : Int)] := Blk.below hq2 ba
                clear hb ba hq1 hq2 cP2 cA x6 xq0 xq1 xn y6 yq
                replace k68 := Lib.hid k68
                replace kq8 := Lib.hid kq8
                replace kr8 := Lib.hid kr8
                go_upto_region 17 with fail
                generalize hWe : w8.alloc (.cells #[.slice none 0 0, .slice none 0 0, .int .i64 0] 25) = wn at hB8 hMk8 k68 kq8 kr8 ⊢
                replace hWe := Lib.hid hWe
                have hDn := Lib.hid (Array.getElem?_eq_some_iff.1 hMk8.out).1
                have x6 : wn.cell? ⟨b6, 0, none⟩ = some (.pointer (some ⟨q, 0, none⟩)) := k68.out.cell 0
                have xq0 : wn.cell? ⟨q, 0, none⟩ = some (.int .i64 (a : Int)) := kq8.out.cell 0
                have xq1 : wn.cell? ⟨q, 1, none⟩ = some (.int .i64 (c : Int)) := kq8.out.cell 1
                have xr0 : wn.cell? ⟨q2, 0, none⟩ = some (.int .i64 (a : Int)) := kr8.out.cell 0
                have xr1 : wn.cell? ⟨q2, 1, none⟩ = some (.int .i64 (c : Int)) := kr8.out.cell 1
                have cA := Lib.hid (lgawake_any ((hE0.out.below hB8.out).below ((Below.refl _ wn).drew)))
                replace hez := Lib.hid hez
                go_region_held3 (fun w' => w'.cell? ⟨b6, 0, none⟩ = some (.pointer (some ⟨q, 0, none⟩)) ∧ w'.cell? ⟨q, 0, none⟩ = some (.int .i64 (a : Int)) ∧ w'.cell? ⟨q, 1, none⟩ = some (.int .i64 (c : Int)) ∧ w'.cell? ⟨q2, 0, none⟩ = some (.int .i64 (a : Int)) ∧ w'.cell? ⟨q2, 1, none⟩ = some (.int .i64 (c : Int))) (go_keep)
                  (first
                    | (go_at_call 9; (with_reducible refine Calls.mono cA.out ?_); rintro en w9 ⟨rfl, hb⟩; have s0 : w9.cell? ⟨b6, 0, none⟩ = some (.pointer (some ⟨q, 0, none⟩)) := (Blk.below (Blk.drew k68.out) hb).cell 0; have s1 : w9.cell? ⟨q, 0, none⟩ = some (.int .i64 (a : Int)) := (Blk.below (Blk.drew kq8.out) hb).cell 0; have s2 : w9.cell? ⟨q, 1, none⟩ = some (.int .i64 (c : Int)) := (Blk.below (Blk.drew kq8.out) hb).cell 1; have s3 : w9.cell? ⟨q2, 0, none⟩ = some (.int .i64 (a : Int)) := (Blk.below (Blk.drew kr8.out) hb).cell 0; have s4 : w9.cell? ⟨q2, 1, none⟩ = some (.int .i64 (c : Int)) := (Blk.below (Blk.drew kr8.out) hb).cell 1))
                have hb9 := Lib.hid (hB8.out.trans (((Below.refl _ wn).drew.trans hb).mono hB8.out.size))
                have hMk9 := Lib.hid ((hb.block D1 hDn.out).trans hMk8.out)
                clear hb cA
                go_wp2_with fail
                refine lv_one hMk9.out (P := Tryd.prog) (fn := Tryd.f4) (v := .bool true) (by simp [results, Tryd.results4, go_sem]) ⟨rfl, bl_put hb9.out hw6.out _⟩
  case ok =>
    obtain ⟨⟨v, rfl, hW1⟩, hb⟩ := hret
    obtain ⟨D, y, hG⟩ := parseF_prg (byt_sl s) hpr.symm
    obtain ⟨AN, cN, AL, cL, rfl, hPM⟩ := prgM_own hW1 hG
    have hNp : 0 < st.N.length := by rw [hG.len]; have := y.size_pos; omega
    obtain ⟨nn, hnn⟩ : ∃ n, n = st.N.length := ⟨_, rfl⟩
    obtain ⟨nl, hnl⟩ : ∃ n, n = st.L.length := ⟨_, rfl⟩
    rw [← hnn] at hNp
    rw [← hnn, ← hnl]
    have ba := ((Below.refl w1.heap.size w1).alloc (Nat.le_refl _) (.cells #[.slice AN nn cN, .slice AL nl cL, .int .i64 (k : Int)] 25)).alloc (by simp) (.cells #[.pointer none] 29)
    have k50 := Lib.hid ((Blk.new w1 25 #[.slice AN nn cN, .slice AL nl cL, .int .i64 (k : Int)]).alloc (.cells #[.pointer none] 29))
    have k60 := Blk.new (w1.alloc (.cells #[.slice AN nn cN, .slice AL nl cL, .int .i64 (k : Int)] 25)) 29 #[.pointer none]
    rw [World.size_alloc] at k60
    have k6 := Lib.hid k60
    have hb2 := Lib.hid (hb.trans (ba.mono hb.size))
    have hnI : (nn : Int) > 0 := by omega
    replace hpr := Lib.hid hpr
    replace hnn := Lib.hid hnn
    replace hnl := Lib.hid hnl
    clear ba k60 hb hW1 hG hPM hNp D y
    go_upto_region 2 with fail
    generalize hWa : (w1.alloc (.cells #[.slice AN nn cN, .slice AL nl cL, .int .i64 (k : Int)] 25)).alloc (.cells #[.pointer none] 29) = w2 at k50 k6 hb2 ⊢
    generalize hqb : w1.heap.size = b5 at k50 k6 ⊢
    replace hWa := Lib.hid hWa
    replace hqb := Lib.hid hqb
    have x6 : w2.cell? ⟨b5 + 1, 0, none⟩ = some (.pointer none) := k6.out.cell 0
    go_upto_region 19 with fail
    have hb3 := Lib.hid (hb2.out.alloc hb2.out.size (.cells #[.string ⟨#[122]⟩, .string ⟨#[50]⟩, .string ⟨#[40]⟩, .string ⟨#[41]⟩, .string ⟨#[61]⟩, .string ⟨#[59]⟩, .string ⟨#[108, 101, 116]⟩, .string ⟨#[97, 98, 99]⟩, .string ⟨#[105]⟩] 9))
    have k5 := Lib.hid (k50.out.alloc (.cells #[.string ⟨#[122]⟩, .string ⟨#[50]⟩, .string ⟨#[40]⟩, .string ⟨#[41]⟩, .string ⟨#[61]⟩, .string ⟨#[59]⟩, .string ⟨#[108, 101, 116]⟩, .string ⟨#[97, 98, 99]⟩, .string ⟨#[105]⟩] 9))
    have kl := Lib.hid (Blk.new w2 9 #[.string ⟨#[122]⟩, .string ⟨#[50]⟩, .string ⟨#[40]⟩, .string ⟨#[41]⟩, .string ⟨#[61]⟩, .string ⟨#[59]⟩, .string ⟨#[108, 101, 116]⟩, .string ⟨#[97, 98, 99]⟩, .string ⟨#[105]⟩])
    clear k50 k6 x6 hb2
    generalize hWb : w2.alloc (.cells #[.string ⟨#[122]⟩, .string ⟨#[50]⟩, .string ⟨#[40]⟩, .string ⟨#[41]⟩, .string ⟨#[61]⟩, .string ⟨#[59]⟩, .string ⟨#[108, 101, 116]⟩, .string ⟨#[97, 98, 99]⟩, .string ⟨#[105]⟩] 9) = w3 at hb3 k5 kl ⊢
    generalize hqc : w2.heap.size = gl at kl ⊢
    replace hWb := Lib.hid hWb
    replace hqc := Lib.hid hqc
    go_loopg [116] 9 (fun kx s116 wr => ∃ (j : Nat), s116 = .int .i64 (j : Int) ∧ Hid (j + kx = 9) ∧ Hid (Below w.heap.size w wr) ∧ Hid (Blk wr b5 25 #[.slice AN nn cN, .slice AL nl cL, .int .i64 (k : Int)]) ∧ Hid (Blk wr gl 9 #[.string ⟨#[122]⟩, .string ⟨#[50]⟩, .string ⟨#[40]⟩, .string ⟨#[41]⟩, .string ⟨#[61]⟩, .string ⟨#[59]⟩, .string ⟨#[108, 101, 116]⟩, .string ⟨#[97, 98, 99]⟩, .string ⟨#[105]⟩]))
    case atStart => exact ⟨0, rfl, Lib.hid rfl, hb3, k5, kl⟩
    case round =>
      clear hb3 k5 kl
      obtain ⟨j, rfl, hjk, hB, k5, kl⟩ := hrel
      have hE2 := hE0.out.below hB.out
      by_cases hj : j < 9
      case pos =>
        have hx : ∃ x, x ∈ moreX ∧ (#[.string ⟨#[122]⟩, .string ⟨#[50]⟩, .string ⟨#[40]⟩, .string ⟨#[41]⟩, .string ⟨#[61]⟩, .string ⟨#[59]⟩, .string ⟨#[108, 101, 116]⟩, .string ⟨#[97, 98, 99]⟩, .string ⟨#[105]⟩] : Array Value)[j]? = some (.string (mkS x)) := by
          have key : ∀ i : Fin 9, moreX[i.1]? = some moreX[i.1]! ∧ (#[.string ⟨#[122]⟩, .string ⟨#[50]⟩, .string ⟨#[40]⟩, .string ⟨#[41]⟩, .string ⟨#[61]⟩, .string ⟨#[59]⟩, .string ⟨#[108, 101, 116]⟩, .string ⟨#[97, 98, 99]⟩, .string ⟨#[105]⟩] : Array Value)[i.1]? = some (.string (mkS moreX[i.1]!)) := by
            intro i
            match i with
            | ⟨0, _⟩ => exact ⟨rfl, rfl⟩
            | ⟨1, _⟩ => exact ⟨rfl, rfl⟩
            | ⟨2, _⟩ => exact ⟨rfl, rfl⟩
            | ⟨3, _⟩ => exact ⟨rfl, rfl⟩
            | ⟨4, _⟩ => exact ⟨rfl, rfl⟩
            | ⟨5, _⟩ => exact ⟨rfl, rfl⟩
            | ⟨6, _⟩ => exact ⟨rfl, rfl⟩
            | ⟨7, _⟩ => exact ⟨rfl, rfl⟩
            | ⟨8, _⟩ => exact ⟨rfl, rfl⟩
          have h := key ⟨j, hj⟩
          exact ⟨_, List.mem_of_getElem? h.1, h.2⟩
        obtain ⟨x, hxm, hxc⟩ := hx
        have hxV := (moreX_ok hxm).1
        have hxl : x.length ≤ 3 := by
          have hxm2 := hxm
          unfold moreX at hxm2
          simp only [List.mem_cons, List.not_mem_nil, or_false] at hxm2
          rcases hxm2 with rfl | rfl | rfl | rfl | rfl | rfl | rfl | rfl | rfl <;> simp
        have x0 : wr.cell? ⟨gl, j, none⟩ = some (.string (mkS x)) := by rw [kl.out.cell, hxc]
        have hmz : (mkS x).size = x.length := mkS_size x
        have hss := hs.out
        have hsl := hlen.out
        have hw1 : wrap64 ((s.size : Int) + 1) = (s.size : Int) + 1 := wr64_in _ (by omega)
        have hw2 : wrap64 ((s.size : Int) + 1 + (x.length : Int)) = (s.size : Int) + 1 + (x.length : Int) := wr64_in _ (by omega)
        have cA := Lib.hid (lgawake_any hE2)
        have cP2 := Lib.hid (fun (h : s.size + 1 + x.length ≤ 16384) => lParse_any (s ++ ⟨#[10]⟩ ++ mkS x) wr (by
            have h1 : (s ++ ⟨#[10]⟩ ++ mkS x).size = s.size + 1 + x.length := by rw [ByteArray.size_append, ByteArray.size_append, mkS_size]; rfl
            omega) hE2.e1 hE2.e2 (.no (s.size + 1) 111) (by
            have e1 : sl (s ++ ⟨#[10]⟩ ++ mkS x) = sl s ++ 10 :: x := by
              rw [sl_app, sl_app, sl_mkS hxV.2.2, List.append_assoc]; rfl
            have e2 := right_more (byt_sl s) hpr.out.symm hxm (by rw [List.length_append, List.length_cons]; omega)
            rw [e1, ← hsl, ← e2]
            exact parseF_ok _))
        clear hss hsl hE2
        replace hxV := Lib.hid hxV
        replace hxl := Lib.hid hxl
        replace hxm := Lib.hid hxm
        replace hxc := Lib.hid hxc
        go_wp2_with fail
        · skip
          refine Calls.mono cA.out ?_
          rintro en w9 ⟨rfl, hb⟩
          have hb9 := Lib.hid (hB.out.trans (hb.mono hB.out.size))
          clear hb cA
          go_wp2_with fail
          exact ⟨.bool true, by simp [results, Tryd.results4, go_sem], rfl, hb9.out⟩
        · skip
          have hlm : s.size + 1 + x.length ≤ 16384 := by omega
          refine Calls.mono (cP2.out hlm) ?_
          rintro en w8 ⟨⟨q2, rfl, hq1, hq2⟩, hb⟩
          have ba := (Below.refl w8.heap.size w8).alloc (Nat.le_refl _) (.cells #[.slice none 0 0, .slice none 0 0, .int .i64 0] 25)
          have hB8 := Lib.hid ((hB.out.trans (hb.mono hB.out.size)).trans (ba.mono (Nat.le_trans hB.out.size hb.size)))
          have k58 := Lib.hid (Blk.below (Blk.below k5.out hb) ba)
          have kl8 := Lib.hid (Blk.below (Blk.below kl.out hb) ba)
          have kr8 := Blk.below hq2 ba
          clear hb ba hq1 hq2 cP2 cA x0 hlm
          replace kr8 := Lib.hid kr8
          go_upto_region 24 with fail
          generalize hWe : w8.alloc (.cells #[.slice none 0 0, .slice none 0 0, .int .i64 0] 25) = wn at hB8 k58 kl8 kr8 ⊢
          replace hWe := Lib.hid hWe
          have xr0 : wn.cell? ⟨q2, 0, none⟩ = some (.int .i64 ((s.size : Int) + 1)) := kr8.out.cell 0
          have xr1 : wn.cell? ⟨q2, 1, none⟩ = some (.int .i64 111) := kr8.out.cell 1
          have hjw : wrap64 ((j : Int) + 1) = (j : Int) + 1 := wr64_in _ (by omega)
          go_wp2_with fail
          go_roundg (gk - 1)
          case measure =>
            have := hjk.out
            omega
          case rel => exact ⟨j + 1, (by first | rfl | (rw [hjw]; rfl)), Lib.hid (by have := hjk.out; omega), hB8, k58, kl8⟩
      case neg =>
        have x5 : wr.cell? ⟨b5, 0, none⟩ = some (.slice AN nn cN) := k5.out.cell 0
        have cA := Lib.hid (lgawake_any hE2)
        clear hE2
        go_wp2_with fail
        refine Calls.mono cA.out ?_
        rintro en w9 ⟨rfl, hb⟩
        have hb9 := Lib.hid (hB.out.trans (hb.mono hB.out.size))
        clear hb cA
        go_wp2_with fail
        exact ⟨.bool true, by simp [results, Tryd.results4, go_sem], rfl, hb9.out⟩
end Go.Proofs.YtnaadajcehfmiaaDoor
