/- filigreeref11.Parse. -/
import Derived.Test.YtnaadajcehfmiaaGreatDoorLvM
namespace Go.Proofs.YtnaadajcehfmiaaGreatDoor
open Go.RowKit Go.Sort Go.Maps

theorem own_base {w : World} {b b' : Nat} {T : TypeId} {size : Nat} {v : Value} {n : Nat} {xs : List Value} (h : w.ownsRow b T size v n xs) (hb : b' ≤ b) : w.ownsRow b' T size v n xs := by
  obtain ⟨hl, hc⟩ := h
  refine ⟨hl, ?_⟩
  rcases hc with hc | ⟨g, cap, cur, hv, hbase, rest⟩
  · exact .inl hc
  · exact .inr ⟨g, cap, cur, hv, Nat.le_trans hb hbase, rest⟩
theorem Lx.done_at {s : List Nat} {i : Nat} {T : List Tok} {l : Nat} {b : Bool} (h : Lx s i T l b) (e : b = false) : l = s.length := by
  induction h with
  | done => rfl
  | bad => cases e
  | tok _ _ _ ih => exact ih e
theorem mapP_ex {last : Nat} {wrong : Bool} {f : PF} {st : PS} {r : PR Nat} (e : mapP last wrong f st = some r) : ∃ r1, f st = some r1 := by
  unfold mapP at e
  rcases hf : f st with _ | r1
  · rw [hf] at e; cases e
  · exact ⟨r1, rfl⟩
theorem mapP_no {last : Nat} {wrong : Bool} {f : PF} {st : PS} {r : PR Nat} {x y : Nat} (h : f st = some (.no x y)) (e : mapP last wrong f st = some r) : r = .no x y := by
  unfold mapP at e
  rw [h] at e
  exact (Option.some.inj e).symm
theorem mapP_ok {last : Nat} {wrong : Bool} {f : PF} {st st1 : PS} {r : PR Nat} {m : Nat} (h : f st = some (.ok m st1)) (e : mapP last wrong f st = some r) : (if st1.T = [] ∧ wrong = false then some (PR.ok m st1) else some (unwP last wrong st1)) = some r := by
  unfold mapP at e
  rw [h] at e
  exact e
/-- What Parse tells. -/
def RetVP (w : World) (r : PR Nat) (e : Ending) (w' : World) : Prop :=
  match r with
  | .ok m st' => (∃ v, e = .returned (.tuple #[v, .int .i64 0, .int .i64 0]) ∧ PrgW w.heap.size v m st' w') ∧ Below w.heap.size w w'
  | .no a c => e = .returned (.tuple #[.agg #[.slice none 0 0, .slice none 0 0, .int .i64 0], .int .i64 (a : Int), .int .i64 (c : Int)]) ∧ Below w.heap.size w w' ∧ c ≠ 0
set_option maxRecDepth 100000 in
set_option maxHeartbeats 8000000 in
/-- Parse -/
theorem rParse_any (s : ByteArray) (w : World) (hs : s.size ≤ 140737488355328) (r : PR Nat) (hr : parseT (sl s) r) :
    Calls Tryz.prog 5 #[.string s] w (RetVP w r) := by
  have hlen := sl_len s
  have hB0 := (Below.refl w.heap.size w).alloc (Nat.le_refl _) (.cells #[.slice none 0 0, .slice none 0 0, .int .i64 0] 25)
  have k0 := Blk.new w 25 #[.slice none 0 0, .slice none 0 0, .int .i64 0]
  obtain ⟨g0, hg0⟩ : ∃ g, g = w.heap.size := ⟨_, rfl⟩
  rw [← hg0] at k0 hB0
  have hz1 : (w.alloc (.cells #[.slice none 0 0, .slice none 0 0, .int .i64 0] 25)).heap.size = g0 + 1 := by simp [hg0]
  have hg0' : w.heap.size = g0 := hg0.symm
  rcases hr with ⟨hl, rfl⟩ | ⟨hl, T, last, wrong, hx, hp⟩
  case inl =>
    have hlI : (16384 : Int) < (s.size : Int) := by omega
    replace hB0 := Lib.hid hB0
    replace k0 := Lib.hid k0
    replace hlen := Lib.hid hlen
    replace hg0 := Lib.hid hg0
    go_enter Tryz.func5, Tryz.ntmps5
    go_upto_region 1 with fail
    generalize hW : w.alloc (.cells #[.slice none 0 0, .slice none 0 0, .int .i64 0] 25) = w1 at hB0 k0 hz1 ⊢
    have x0 : w1.cell? ⟨g0, 0, none⟩ = some (.slice none 0 0) := k0.out.cell 0
    have x1 : w1.cell? ⟨g0, 1, none⟩ = some (.slice none 0 0) := k0.out.cell 1
    have x2 : w1.cell? ⟨g0, 2, none⟩ = some (.int .i64 0) := k0.out.cell 2
    have f0 := k0.out.frozen 0
    have f1 := k0.out.frozen 1
    have f2 := k0.out.frozen 2
    clear hW hz1 hl hs
    go_wp2_with fail
    have K2 : Blk (((w1.setCell ⟨g0, 0, none⟩ (.slice none 0 0)).setCell ⟨g0, 1, none⟩ (.slice none 0 0)).setCell ⟨g0, 2, none⟩ (.int .i64 0)) g0 25 #[.slice none 0 0, .slice none 0 0, .int .i64 0] := by
      have h := ((k0.out.set_ 0 (.slice none 0 0)).set_ 1 (.slice none 0 0)).set_ 2 (.int .i64 0)
      exact h
    have HB : Below g0 w (((w1.setCell ⟨g0, 0, none⟩ (.slice none 0 0)).setCell ⟨g0, 1, none⟩ (.slice none 0 0)).setCell ⟨g0, 2, none⟩ (.int .i64 0)) := ((hB0.out.setCell (p := ⟨g0, 0, none⟩) (Nat.le_refl _) (.slice none 0 0)).setCell (p := ⟨g0, 1, none⟩) (Nat.le_refl _) (.slice none 0 0)).setCell (p := ⟨g0, 2, none⟩) (Nat.le_refl _) (.int .i64 0)
    have c0 := K2.cell 0
    have c1 := K2.cell 1
    have c2 := K2.cell 2
    refine bodyPost_ret (v := .tuple #[.agg #[.slice none 0 0, .slice none 0 0, .int .i64 0], .int .i64 0, .int .i64 4]) (by simp [results, Tryz.results5, go_sem, c0, c1, c2]) rfl ⟨rfl, by rw [hg0']; exact HB, by decide⟩
  case inr =>
    have hlI : ¬ (16384 : Int) < (s.size : Int) := by omega
    have hsz : s.size ≤ 16384 := by omega
    have hTl : T.length ≤ 16384 := by have := hx.len; omega
    have hla := hx.last
    have hTo : TkOk T last := ⟨hTl, fun t ht => by
      obtain ⟨n1, n2, n3, k, n4, n5, n6⟩ := hx.ne t ht
      exact ⟨n1, by omega, (by rw [n4]; exact byt_cut), by omega⟩, by omega⟩
    have hls : Hid (wrong = false → last = s.size) := Lib.hid (fun e => by rw [← hlen]; exact hx.done_at e)
    have cK := rvTokens s (w.alloc (.cells #[.slice none 0 0, .slice none 0 0, .int .i64 0] 25)) hsz hx
    rw [hz1] at cK
    replace cK := Lib.hid cK
    replace hB0 := Lib.hid hB0
    replace k0 := Lib.hid k0
    replace hlen := Lib.hid hlen
    replace hx := Lib.hid hx
    replace hp := Lib.hid hp
    replace hTo := Lib.hid hTo
    replace hg0 := Lib.hid hg0
    have hlaI : Hid (last ≤ 16384) := Lib.hid (by have := hlen.out; omega)
    clear hla hl
    go_enter Tryz.func5, Tryz.ntmps5
    go_upto_region 1 with fail
    generalize hW : w.alloc (.cells #[.slice none 0 0, .slice none 0 0, .int .i64 0] 25) = w1 at hB0 k0 hz1 cK ⊢
    have x0 : w1.cell? ⟨g0, 0, none⟩ = some (.slice none 0 0) := k0.out.cell 0
    clear hW hs x0
    have hz1H := Lib.hid hz1
    have k1 : Hid (Blk w1 g0 25 #[.slice none 0 0, .slice none 0 0, .int .i64 0]) := k0
    clear hz1
    go_wp2_with fail
    refine cK.out.mono ?_
    rintro en w2 ⟨vT, rfl, hrow, hB2⟩
    rw [show g0 + 1 = w1.heap.size from hz1H.out.symm] at hrow
    obtain ⟨AT, cT, rfl, -, -⟩ := own_form hrow
    replace hB2 := Lib.hid (show Below w1.heap.size w1 w2 from by rw [hz1H.out]; exact hB2)
    replace hrow := Lib.hid hrow
    clear cK
    obtain ⟨n0, hn0⟩ : ∃ n, n = T.length := ⟨_, rfl⟩
    rw [← hn0] at hrow hTl ⊢
    replace hn0 := Lib.hid hn0
    cases wrong
    case false =>
      have hla : last = s.size := hls.out rfl
      rw [show (if false = true then last else 0) = 0 from rfl, show (if false = true then 110 else 0) = 0 from rfl]
      try dsimp only
      clear hls
      have s0 : Sep w2 [itRow w1.heap.size 67 2 (.slice AT n0 cT) n0 (T.flatMap encV), itRow w1.heap.size 52 5 (.slice none 0 0) 0 [], itRow w1.heap.size 3 1 (.slice none 0 0) 0 [], itRow w1.heap.size 54 2 (.slice none 0 0) 0 []] := by
        refine ⟨fun a ha => ?_, ?_⟩
        · simp only [List.mem_cons, List.not_mem_nil, or_false] at ha
          rcases ha with rfl | rfl | rfl | rfl
          · exact hrow.out
          · exact World.ownsRow_nil _ _ _ _
          · exact World.ownsRow_nil _ _ _ _
          · exact World.ownsRow_nil _ _ _ _
        · simp only [List.pairwise_cons, List.mem_cons, List.not_mem_nil, or_false, Far]
          simp [itRow, Value.ownBlock]
      have s1 : Hid (Sep (w2.alloc (.cells #[.slice AT n0 cT, .int .i64 0, .int .i64 0, .int .i64 0, .int .i64 0, .slice none 0 0, .slice none 0 0, .slice none 0 0, .int .i64 0, .int .i64 0] 47)) [itBlk w2.heap.size 47 #[.slice AT n0 cT, .int .i64 0, .int .i64 0, .int .i64 0, .int .i64 0, .slice none 0 0, .slice none 0 0, .slice none 0 0, .int .i64 0, .int .i64 0], itRow w1.heap.size 67 2 (.slice AT n0 cT) n0 (T.flatMap encV), itRow w1.heap.size 52 5 (.slice none 0 0) 0 [], itRow w1.heap.size 3 1 (.slice none 0 0) 0 [], itRow w1.heap.size 54 2 (.slice none 0 0) 0 []]) := Lib.hid (s0.new (World.grownBy_alloc w2 _ none) (Blk.new w2 47 #[.slice AT n0 cT, .int .i64 0, .int .i64 0, .int .i64 0, .int .i64 0, .slice none 0 0, .slice none 0 0, .slice none 0 0, .int .i64 0, .int .i64 0]) (fun k hk => by injection hk with hk; rw [← hk]; exact Nat.le_refl _))
      have hB3 := Lib.hid (hB2.out.alloc hB2.out.size (.cells #[.slice AT n0 cT, .int .i64 0, .int .i64 0, .int .i64 0, .int .i64 0, .slice none 0 0, .slice none 0 0, .slice none 0 0, .int .i64 0, .int .i64 0] 47))
      have hpB : Hid (w1.heap.size ≤ w2.heap.size) := Lib.hid hB2.out.size
      clear s0 hB2 hrow
      go_upto_region 5 with fail
      generalize w2.alloc (.cells #[.slice AT n0 cT, .int .i64 0, .int .i64 0, .int .i64 0, .int .i64 0, .slice none 0 0, .slice none 0 0, .slice none 0 0, .int .i64 0, .int .i64 0] 47) = w3 at s1 hB3 ⊢
      generalize w2.heap.size = p at s1 hpB ⊢
      have kb : Blk w3 p 47 #[.slice AT n0 cT, .int .i64 0, .int .i64 0, .int .i64 0, .int .i64 0, .slice none 0 0, .slice none 0 0, .slice none 0 0, .int .i64 0, .int .i64 0] := s1.out.1 _ (List.mem_cons_self ..)
      have b2 : w3.cell? ⟨p, 2, none⟩ = some (.int .i64 0) := kb.cell 2
      have f2 := kb.frozen 2
      have s2 : Hid (Sep (w3.setCell ⟨p, 2, none⟩ (.int .i64 (s.size : Int))) [itBlk p 47 #[.slice AT n0 cT, .int .i64 0, .int .i64 (s.size : Int), .int .i64 0, .int .i64 0, .slice none 0 0, .slice none 0 0, .slice none 0 0, .int .i64 0, .int .i64 0], itRow w1.heap.size 67 2 (.slice AT n0 cT) n0 (T.flatMap encV), itRow w1.heap.size 52 5 (.slice none 0 0) 0 [], itRow w1.heap.size 3 1 (.slice none 0 0) 0 [], itRow w1.heap.size 54 2 (.slice none 0 0) 0 []]) := Lib.hid (Sep.one s1.out (gb_set (gb_refl w3 _) 2 (.int .i64 (s.size : Int))) (by
        have hb := Blk.set_ kb 2 (.int .i64 (s.size : Int))
        exact hb) (fun k hk => .inl hk))
      have hB4 := Lib.hid (hB3.out.setCell (p := ⟨p, 2, none⟩) hpB.out (.int .i64 (s.size : Int)))
      clear s1 hB3 kb
      go_upto_region 7 with fail
      generalize w3.setCell ⟨p, 2, none⟩ (.int .i64 (s.size : Int)) = w4 at s2 hB4 ⊢
      clear b2 f2
      rw [← hla] at s2
      have hR0 : Hid (RvS T last false w1.heap.size p [] 0 (⟨T, [], [], []⟩ : PS) w4) := Lib.hid (by
        refine ⟨0, ⟨.slice AT n0 cT, .slice none 0 0, .slice none 0 0, .slice none 0 0, ?_, hpB.out⟩, ⟨rfl, Nat.zero_le _, rfl, Nat.zero_le _, (fun h hh => by cases hh), Nat.zero_le _, (fun t ht => by cases ht)⟩⟩
        rw [← hn0.out, List.append_nil]
        exact s2.out)
      have hPS := Lib.hid (sumV_all (B := w1.heap.size) (p := p) (wrong := false) hTo.out 64 0 rfl)
      have hp0 : Hid (textP last false (sumP last false 64) (T.length + 1) (⟨T, [], [], []⟩ : PS) = some r) := Lib.hid hp.out
      obtain ⟨m0, hm0⟩ : ∃ n, n = T.length + 1 := ⟨_, rfl⟩
      rw [← hm0] at hp0
      replace hm0 := Lib.hid hm0
      clear s2
      go_loopg [] m0 (fun kx wr => Hid (Below w1.heap.size w1 wr) ∧ Hid ((∃ (n : Nat) (st : PS), RvS T last false w1.heap.size p [] 0 st wr ∧ textP last false (sumP last false 64) n st = some r ∧ n ≤ kx) ∨ (∃ x y, r = .no x y ∧ (∃ vT vN vH vL i o, Blk wr p 47 (rvC vT false last i o vN vH vL x y)) ∧ y ≠ 0)))
      case atStart => exact ⟨hB4, Lib.hid (.inl ⟨m0, _, hR0.out, hp0.out, Nat.le_refl _⟩)⟩
      case round =>
        clear hB4 hR0 hp0
        obtain ⟨hB, hS⟩ := hrel
        rcases hS.out with ⟨n, st, ⟨i, hm, hk⟩, hpr, hnk⟩ | ⟨x, y, rfl, ⟨vT, vN, vH, vL, i, o, hK0⟩, hy0⟩
        case inr =>
          have c9 : wr.cell? ⟨p, 9, none⟩ = some (.int .i64 (y : Int)) := hK0.cell 9
          have hcI : ((y : Int) == 0) = false := k_ne (b := 0) hy0
          have hcJ : ((y : Int) != 0) = true := by rw [bne, hcI]; rfl
          have cZ := Lib.hid (rvsum0 hy0 c9)
          have hK := Lib.hid hK0
          have hy := Lib.hid hy0
          clear hS hK0 hy0
          go_wp2_with fail
          refine cZ.out.mono ?_
          rintro en wE ⟨rfl, rfl⟩
          have hBE := hB
          clear cZ hB
          have k2 := Lib.hid (Blk.below k1.out hBE.out)
          have y8 : wE.cell? ⟨p, 8, none⟩ = some (.int .i64 (x : Int)) := hK.out.cell 8
          have y9 : wE.cell? ⟨p, 9, none⟩ = some (.int .i64 (y : Int)) := hK.out.cell 9
          have x0 : wE.cell? ⟨g0, 0, none⟩ = some (.slice none 0 0) := k2.out.cell 0
          have x1 : wE.cell? ⟨g0, 1, none⟩ = some (.slice none 0 0) := k2.out.cell 1
          have x2 : wE.cell? ⟨g0, 2, none⟩ = some (.int .i64 0) := k2.out.cell 2
          have f0 := k2.out.frozen 0
          have f1 := k2.out.frozen 1
          have f2 := k2.out.frozen 2
          have hne : ¬ g0 = p := by have := hpB.out; have := hz1H.out; omega
          have hne2 : ¬ p = g0 := by have := hpB.out; have := hz1H.out; omega
          go_upto_region 13 with fail
          go_region
          all_goals
            go_wp2_with fail
            have K2 : Blk ((((wE.setCell ⟨g0, 0, none⟩ (.slice none 0 0)).setCell ⟨g0, 1, none⟩ (.slice none 0 0)).setCell ⟨g0, 2, none⟩ (.int .i64 0))).drew g0 25 #[.slice none 0 0, .slice none 0 0, .int .i64 0] := by
              have h := ((k2.out.set_ 0 (.slice none 0 0)).set_ 1 (.slice none 0 0)).set_ 2 (.int .i64 0)
              exact Blk.drew h
            have HB : Below g0 w ((((wE.setCell ⟨g0, 0, none⟩ (.slice none 0 0)).setCell ⟨g0, 1, none⟩ (.slice none 0 0)).setCell ⟨g0, 2, none⟩ (.int .i64 0))).drew := ((((hB0.out.trans (hBE.out.mono (by have := hz1H.out; omega))).setCell (p := ⟨g0, 0, none⟩) (Nat.le_refl _) (.slice none 0 0)).setCell (p := ⟨g0, 1, none⟩) (Nat.le_refl _) (.slice none 0 0)).setCell (p := ⟨g0, 2, none⟩) (Nat.le_refl _) (.int .i64 0)).drew
            have c0 := K2.cell 0
            have c1 := K2.cell 1
            have c2 := K2.cell 2
            refine bodyPost_ret (v := .tuple #[.agg #[.slice none 0 0, .slice none 0 0, .int .i64 0], .int .i64 (x : Int), .int .i64 (y : Int)]) (by simp [results, Tryz.results5, go_sem, c0, c1, c2]) rfl ⟨rfl, by rw [hg0']; exact HB, hy.out⟩
        case inl =>
          rcases n with _ | n
          · rw [textP] at hpr; cases hpr
          rw [textP] at hpr
          obtain ⟨c9, -⟩ := hm.cell_cd
          rw [show ((0 : Nat) : Int) = 0 from rfl] at c9
          have hM := Lib.hid (fun (W : World) (hb : Below wr.heap.size wr W) => hm.below hb)
          have cT := Lib.hid (rvText hTo.out.tl hm)
          have hBw := Lib.hid (show w1.heap.size ≤ wr.heap.size from hm.lt.2.1)
          have htx := hk.tx
          have hbt := (hTo.out.byt i).1
          have m1 := mkS_is hbt [108, 101, 116] (by unfold Byt; simp)
          obtain ⟨t, ht⟩ : ∃ t, t = txA T i := ⟨_, rfl⟩
          rw [← ht] at cT htx hbt m1
          rw [htx] at hpr
          obtain ⟨tk, htk⟩ : ∃ k, k = mkS t := ⟨_, rfl⟩
          rw [← htk] at cT m1
          replace htk := Lib.hid htk
          replace ht := Lib.hid ht
          have hil := Lib.hid hk.il
          clear hS hm hbt
          by_cases hx : t = [108, 101, 116]
          case pos =>
            have e1 : tk.toList = [108, 101, 116] := m1.2 hx
            have q1 : (tk.toList == [108, 101, 116]) = true := by rw [e1]; rfl
            rw [if_pos hx] at hpr
            obtain ⟨r1, hr1⟩ : ∃ r1, letP last false (sumP last false 64) st = some r1 := by
              rcases hf : letP last false (sumP last false 64) st with _ | r1
              · rw [hf] at hpr; cases hpr
              · exact ⟨r1, rfl⟩
            rw [hr1] at hpr
            have cL := Lib.hid (fun (W : World) (hb : Below wr.heap.size wr W) => rvLet hTo.out hPS.out (sumP_L 64) (sumP_good 64) (by rw [htx, hx]) (show RvS T last false w1.heap.size p [] 0 st W from ⟨i, hM.out W hb, hk⟩) r1 hr1)
            replace hr1 := Lib.hid hr1
            replace hpr := Lib.hid hpr
            clear hx m1 htx hk
            go_wp2_with fail
            refine cT.out.mono ?_
            rintro en w5 ⟨rfl, hdr⟩
            have hb5 := Lib.hid (hdr.below wr.heap.size)
            have hB5 := Lib.hid (hB.out.trans (hb5.out.mono hBw.out))
            clear hdr cT
            go_wp2_with fail
            refine (cL.out _ hb5.out).mono ?_
            clear cL
            rcases r1 with ⟨u, st1⟩ | ⟨x, y⟩
            case no =>
              have hrx : r = .no x y := (Option.some.inj hpr.out).symm
              subst hrx
              rintro en w6 ⟨rfl, hK6, hB6, hy⟩
              replace hK6 := Lib.hid hK6
              replace hB6 := Lib.hid (hB5.out.trans hB6)
              replace hy := Lib.hid hy
              clear hB hB5 hM
              go_wp2_with fail
              go_roundg n
              case measure => omega
              case rel => exact ⟨hB6, Lib.hid (.inr ⟨x, y, rfl, hK6.out, hy.out⟩)⟩
            case ok =>
              rintro en w6 ⟨rfl, hR6, hB6⟩
              replace hR6 := Lib.hid hR6
              replace hB6 := Lib.hid (hB5.out.trans hB6)
              clear hB hB5 hM
              go_wp2_with fail
              go_roundg n
              case measure => omega
              case rel => exact ⟨hB6, Lib.hid (.inl ⟨n, st1, hR6.out, hpr.out, Nat.le_refl _⟩)⟩
          case neg =>
            have e1 : ¬ tk.toList = [108, 101, 116] := fun e => hx (m1.1 e)
            have q1 : (tk.toList == [108, 101, 116]) = false := beq_eq_false_iff_ne.2 e1
            rw [if_neg hx] at hpr
            obtain ⟨r1, hr1⟩ := mapP_ex hpr
            have cS := Lib.hid (fun (W : World) (hb : Below wr.heap.size wr W) => hPS.out [] st W r1 ⟨i, hM.out W hb, hk⟩ hr1)
            replace hr1 := Lib.hid hr1
            clear hx m1 htx hk
            go_wp2_with fail
            refine cT.out.mono ?_
            rintro en w5 ⟨rfl, hdr⟩
            have hb5 := Lib.hid (hdr.below wr.heap.size)
            have hB5 := Lib.hid (hB.out.trans (hb5.out.mono hBw.out))
            clear hdr cT
            go_wp2_with fail
            refine (cS.out _ hb5.out).mono ?_
            clear cS c9 hM hB
            rcases r1 with ⟨m, st1⟩ | ⟨x, y⟩
            case no =>
              have hrx : r = .no x y := mapP_no hr1.out hpr
              subst hrx
              rintro en wE ⟨⟨z, rfl⟩, ⟨o1, i1, N1, H1, hM6⟩, hB6, hy⟩
              have hK : Hid (∃ vT vN vH vL, Blk wE p 47 (rvC vT false last i1 o1 vN vH vL x y)) := Lib.hid hM6.blk
              have c9 : wE.cell? ⟨p, 9, none⟩ = some (.int .i64 (y : Int)) := (hM6.cell_cd).1
              have hcI : ((y : Int) == 0) = false := k_ne (b := 0) hy
              have hcJ : ((y : Int) != 0) = true := by rw [bne, hcI]; rfl
              replace hy := Lib.hid hy
              have hBE := Lib.hid (hB5.out.trans hB6)
              clear hM6 hB6 hB5 hpr
              obtain ⟨vT, vN, vH, vL, hK⟩ := hK.out
              replace hK := Lib.hid hK
              have k2 := Lib.hid (Blk.below k1.out hBE.out)
              have y8 : wE.cell? ⟨p, 8, none⟩ = some (.int .i64 (x : Int)) := hK.out.cell 8
              have y9 : wE.cell? ⟨p, 9, none⟩ = some (.int .i64 (y : Int)) := hK.out.cell 9
              have x0 : wE.cell? ⟨g0, 0, none⟩ = some (.slice none 0 0) := k2.out.cell 0
              have x1 : wE.cell? ⟨g0, 1, none⟩ = some (.slice none 0 0) := k2.out.cell 1
              have x2 : wE.cell? ⟨g0, 2, none⟩ = some (.int .i64 0) := k2.out.cell 2
              have f0 := k2.out.frozen 0
              have f1 := k2.out.frozen 1
              have f2 := k2.out.frozen 2
              have hne : ¬ g0 = p := by have := hpB.out; have := hz1H.out; omega
              have hne2 : ¬ p = g0 := by have := hpB.out; have := hz1H.out; omega
              go_upto_region 13 with fail
              go_region
              all_goals
                go_wp2_with fail
                have K2 : Blk ((((wE.setCell ⟨g0, 0, none⟩ (.slice none 0 0)).setCell ⟨g0, 1, none⟩ (.slice none 0 0)).setCell ⟨g0, 2, none⟩ (.int .i64 0))).drew g0 25 #[.slice none 0 0, .slice none 0 0, .int .i64 0] := by
                  have h := ((k2.out.set_ 0 (.slice none 0 0)).set_ 1 (.slice none 0 0)).set_ 2 (.int .i64 0)
                  exact Blk.drew h
                have HB : Below g0 w ((((wE.setCell ⟨g0, 0, none⟩ (.slice none 0 0)).setCell ⟨g0, 1, none⟩ (.slice none 0 0)).setCell ⟨g0, 2, none⟩ (.int .i64 0))).drew := ((((hB0.out.trans (hBE.out.mono (by have := hz1H.out; omega))).setCell (p := ⟨g0, 0, none⟩) (Nat.le_refl _) (.slice none 0 0)).setCell (p := ⟨g0, 1, none⟩) (Nat.le_refl _) (.slice none 0 0)).setCell (p := ⟨g0, 2, none⟩) (Nat.le_refl _) (.int .i64 0)).drew
                have c0 := K2.cell 0
                have c1 := K2.cell 1
                have c2 := K2.cell 2
                refine bodyPost_ret (v := .tuple #[.agg #[.slice none 0 0, .slice none 0 0, .int .i64 0], .int .i64 (x : Int), .int .i64 (y : Int)]) (by simp [results, Tryz.results5, go_sem, c0, c1, c2]) rfl ⟨rfl, by rw [hg0']; exact HB, hy.out⟩
            case ok =>
              rintro en w6 ⟨rfl, ⟨i1, hm6, hk6⟩, hB6, hm9, hN6⟩
              have hpr := mapP_ok hr1.out hpr
              have hB7 := Lib.hid (hB5.out.trans hB6)
              obtain ⟨c9, -⟩ := hm6.cell_cd
              rw [show ((0 : Nat) : Int) = 0 from rfl] at c9
              obtain ⟨c3, -⟩ := hm6.cell_i
              have hil6 := hk6.il
              have hT6 : st1.T = [] ↔ ¬ i1 < T.length := by
                rw [hk6.iT, List.drop_eq_nil_iff]; omega
              rw [← hn0.out] at hT6 hil6
              clear hB5 hB6
              by_cases hend : i1 < n0
              case pos =>
                have hiI : (i1 : Int) < (n0 : Int) := by omega
                rw [if_neg (by intro h; exact (hT6.1 h.1) hend)] at hpr
                have hu2 := hpr
                obtain ⟨x, y, hu⟩ : ∃ x y, (unwP last false st1 : PR Nat) = .no x y := by
                  rcases hu : (unwP last false st1 : PR Nat) with ⟨v, st2⟩ | ⟨x, y⟩
                  · exact (unwP_ok hu).elim
                  · exact ⟨x, y, rfl⟩
                have hrx : r = .no x y := by rw [hu] at hu2; exact (Option.some.inj hu2).symm
                subst hrx
                have cU := Lib.hid (rvWant (st := st1) hTo.out hm6 hk6 hu)
                replace hu := Lib.hid hu
                clear hpr hu2 hm6 hk6 hm9 hN6 hT6 hil6
                go_wp2_with fail
                refine cU.out.mono ?_
                rintro en wE ⟨rfl, ⟨o1, i2, N1, H1, hM6⟩, hB6, hy⟩
                have hK : Hid (∃ vT vN vH vL, Blk wE p 47 (rvC vT false last i2 o1 vN vH vL x y)) := Lib.hid hM6.blk
                have hcI : ((y : Int) == 0) = false := k_ne (b := 0) hy
                have hcJ : ((y : Int) != 0) = true := by rw [bne, hcI]; rfl
                replace hy := Lib.hid hy
                have hBE := Lib.hid (hB7.out.trans hB6)
                clear hM6 hB6 hB7 c9 c3 cU
                obtain ⟨vT, vN, vH, vL, hK⟩ := hK.out
                replace hK := Lib.hid hK
                have k2 := Lib.hid (Blk.below k1.out hBE.out)
                have y8 : wE.cell? ⟨p, 8, none⟩ = some (.int .i64 (x : Int)) := hK.out.cell 8
                have y9 : wE.cell? ⟨p, 9, none⟩ = some (.int .i64 (y : Int)) := hK.out.cell 9
                have x0 : wE.cell? ⟨g0, 0, none⟩ = some (.slice none 0 0) := k2.out.cell 0
                have x1 : wE.cell? ⟨g0, 1, none⟩ = some (.slice none 0 0) := k2.out.cell 1
                have x2 : wE.cell? ⟨g0, 2, none⟩ = some (.int .i64 0) := k2.out.cell 2
                have f0 := k2.out.frozen 0
                have f1 := k2.out.frozen 1
                have f2 := k2.out.frozen 2
                have hne : ¬ g0 = p := by have := hpB.out; have := hz1H.out; omega
                have hne2 : ¬ p = g0 := by have := hpB.out; have := hz1H.out; omega
                go_upto_region 13 with fail
                go_region
                all_goals
                  go_wp2_with fail
                  have K2 : Blk ((((wE.setCell ⟨g0, 0, none⟩ (.slice none 0 0)).setCell ⟨g0, 1, none⟩ (.slice none 0 0)).setCell ⟨g0, 2, none⟩ (.int .i64 0))).drew g0 25 #[.slice none 0 0, .slice none 0 0, .int .i64 0] := by
                    have h := ((k2.out.set_ 0 (.slice none 0 0)).set_ 1 (.slice none 0 0)).set_ 2 (.int .i64 0)
                    exact Blk.drew h
                  have HB : Below g0 w ((((wE.setCell ⟨g0, 0, none⟩ (.slice none 0 0)).setCell ⟨g0, 1, none⟩ (.slice none 0 0)).setCell ⟨g0, 2, none⟩ (.int .i64 0))).drew := ((((hB0.out.trans (hBE.out.mono (by have := hz1H.out; omega))).setCell (p := ⟨g0, 0, none⟩) (Nat.le_refl _) (.slice none 0 0)).setCell (p := ⟨g0, 1, none⟩) (Nat.le_refl _) (.slice none 0 0)).setCell (p := ⟨g0, 2, none⟩) (Nat.le_refl _) (.int .i64 0)).drew
                  have c0 := K2.cell 0
                  have c1 := K2.cell 1
                  have c2 := K2.cell 2
                  refine bodyPost_ret (v := .tuple #[.agg #[.slice none 0 0, .slice none 0 0, .int .i64 0], .int .i64 (x : Int), .int .i64 (y : Int)]) (by simp [results, Tryz.results5, go_sem, c0, c1, c2]) rfl ⟨rfl, by rw [hg0']; exact HB, hy.out⟩
              have hiI : ¬ (i1 : Int) < (n0 : Int) := by omega
              rw [if_pos ⟨hT6.2 hend, rfl⟩] at hpr
              have hrx : r = .ok m st1 := (Option.some.inj hpr).symm
              subst hrx
              obtain ⟨vT, vN, vH, vL, h1, h4⟩ := hm6
              have hkb : Blk w6 p 47 (rvC vT false last i1 ((0 : Nat) : Int) vN vH vL 0 0) := h1.1 _ (List.mem_cons_self ..)
              have hS6 : Sep w6 [itRow w1.heap.size 52 5 vN st1.N.length (st1.N.flatMap encN), itRow w1.heap.size 54 2 vL st1.L.length (st1.L.flatMap encL)] := h1.sub (by
                refine List.Sublist.cons _ (List.Sublist.cons _ (List.Sublist.cons_cons _ (List.Sublist.cons _ (List.Sublist.cons_cons _ (List.nil_sublist _)))))
                )
              obtain ⟨AN, cN, rfl, -, -⟩ := own_form (hS6.1 _ (List.mem_cons_self ..))
              obtain ⟨AL, cL, rfl, -, -⟩ := own_form (hS6.1 (itRow w1.heap.size 54 2 vL st1.L.length (st1.L.flatMap encL)) (by simp))
              obtain ⟨nN, hnN⟩ : ∃ n, n = st1.N.length := ⟨_, rfl⟩
              obtain ⟨nL, hnL⟩ : ∃ n, n = st1.L.length := ⟨_, rfl⟩
              rw [← hnN, ← hnL] at hS6 hkb
              have y5 : w6.cell? ⟨p, 5, none⟩ = some (.slice AN nN cN) := hkb.cell 5
              have y7 : w6.cell? ⟨p, 7, none⟩ = some (.slice AL nL cL) := hkb.cell 7
              have k2 := Lib.hid (Blk.below k1.out hB7.out)
              have x0 : w6.cell? ⟨g0, 0, none⟩ = some (.slice none 0 0) := k2.out.cell 0
              have x1 : w6.cell? ⟨g0, 1, none⟩ = some (.slice none 0 0) := k2.out.cell 1
              have x2 : w6.cell? ⟨g0, 2, none⟩ = some (.int .i64 0) := k2.out.cell 2
              have f0 := k2.out.frozen 0
              have f1 := k2.out.frozen 1
              have f2 := k2.out.frozen 2
              have hfin : Hid (m < st1.N.length ∧ st1.N.length ≤ 4096 ∧ st1.L.length ≤ 16385) := Lib.hid ⟨hm9, hk6.max, by have := hk6.lets; have := hTo.out.tl; omega⟩
              replace hS6 := Lib.hid hS6
              replace hnN := Lib.hid hnN
              replace hnL := Lib.hid hnL
              clear hpr h1 h4 hkb hk6 hm9 hN6 hT6 hil6
              go_wp2_with fail
              have K2 : Blk (((w6.setCell ⟨g0, 0, none⟩ (.slice AN nN cN)).setCell ⟨g0, 1, none⟩ (.slice AL nL cL)).setCell ⟨g0, 2, none⟩ (.int .i64 (m : Int))) g0 25 #[.slice AN nN cN, .slice AL nL cL, .int .i64 (m : Int)] := by
                have h := ((k2.out.set_ 0 (.slice AN nN cN)).set_ 1 (.slice AL nL cL)).set_ 2 (.int .i64 (m : Int))
                exact h
              have HB : Below g0 w (((w6.setCell ⟨g0, 0, none⟩ (.slice AN nN cN)).setCell ⟨g0, 1, none⟩ (.slice AL nL cL)).setCell ⟨g0, 2, none⟩ (.int .i64 (m : Int))) := (((hB0.out.trans (hB7.out.mono (by have := hz1H.out; omega))).setCell (p := ⟨g0, 0, none⟩) (Nat.le_refl _) (.slice AN nN cN)).setCell (p := ⟨g0, 1, none⟩) (Nat.le_refl _) (.slice AL nL cL)).setCell (p := ⟨g0, 2, none⟩) (Nat.le_refl _) (.int .i64 (m : Int))
              have GB : w6.grownBy (((w6.setCell ⟨g0, 0, none⟩ (.slice AN nN cN)).setCell ⟨g0, 1, none⟩ (.slice AL nL cL)).setCell ⟨g0, 2, none⟩ (.int .i64 (m : Int))) (some g0) := gb_set (gb_set (gb_set (gb_refl w6 (some g0)) 0 (.slice AN nN cN)) 1 (.slice AL nL cL)) 2 (.int .i64 (m : Int))
              have S1 := sep_far hS6.out (g := g0) (fun a ha k hk => by
                have hz := hz1H.out
                simp only [List.mem_cons, List.not_mem_nil, or_false] at ha
                rcases ha with rfl | rfl
                · have := (World.ownsRow.lt (hS6.out.1 _ (List.mem_cons_self ..)) k hk).1; omega
                · have := (World.ownsRow.lt (hS6.out.1 (itRow w1.heap.size 54 2 (.slice AL nL cL) nL (st1.L.flatMap encL)) (by simp)) k hk).1; omega) GB
              have c0 := K2.cell 0
              have c1 := K2.cell 1
              have c2 := K2.cell 2
              refine bodyPost_ret (v := .tuple #[.agg #[.slice AN nN cN, .slice AL nL cL, .int .i64 (m : Int)], .int .i64 0, .int .i64 0]) (by simp [results, Tryz.results5, go_sem, c0, c1, c2]) rfl ⟨⟨_, rfl, _, _, rfl, ?_, hfin.out⟩, by rw [hg0']; exact HB⟩
              rw [hg0', ← hnN.out, ← hnL.out]
              refine ⟨fun a ha => ?_, by have h9 := S1.2; simp only [List.pairwise_cons, List.mem_cons, List.not_mem_nil, or_false, forall_eq] at h9 ⊢; exact ⟨h9.1, fun _ h => h.elim, List.Pairwise.nil⟩⟩
              have hz := hz1H.out
              simp only [List.mem_cons, List.not_mem_nil, or_false] at ha
              rcases ha with rfl | rfl
              · exact own_base (S1.1 _ (List.mem_cons_self ..)) (by omega)
              · exact own_base (S1.1 (itRow w1.heap.size 54 2 (.slice AL nL cL) nL (st1.L.flatMap encL)) (by simp)) (by omega)
    case true =>
      rw [show (if true = true then last else 0) = last from rfl, show (if true = true then 110 else 0) = 110 from rfl]
      try dsimp only
      clear hls
      have s0 : Sep w2 [itRow w1.heap.size 67 2 (.slice AT n0 cT) n0 (T.flatMap encV), itRow w1.heap.size 52 5 (.slice none 0 0) 0 [], itRow w1.heap.size 3 1 (.slice none 0 0) 0 [], itRow w1.heap.size 54 2 (.slice none 0 0) 0 []] := by
        refine ⟨fun a ha => ?_, ?_⟩
        · simp only [List.mem_cons, List.not_mem_nil, or_false] at ha
          rcases ha with rfl | rfl | rfl | rfl
          · exact hrow.out
          · exact World.ownsRow_nil _ _ _ _
          · exact World.ownsRow_nil _ _ _ _
          · exact World.ownsRow_nil _ _ _ _
        · simp only [List.pairwise_cons, List.mem_cons, List.not_mem_nil, or_false, Far]
          simp [itRow, Value.ownBlock]
      have s1 : Hid (Sep (w2.alloc (.cells #[.slice AT n0 cT, .int .i64 110, .int .i64 (last : Int), .int .i64 0, .int .i64 0, .slice none 0 0, .slice none 0 0, .slice none 0 0, .int .i64 0, .int .i64 0] 47)) [itBlk w2.heap.size 47 #[.slice AT n0 cT, .int .i64 110, .int .i64 (last : Int), .int .i64 0, .int .i64 0, .slice none 0 0, .slice none 0 0, .slice none 0 0, .int .i64 0, .int .i64 0], itRow w1.heap.size 67 2 (.slice AT n0 cT) n0 (T.flatMap encV), itRow w1.heap.size 52 5 (.slice none 0 0) 0 [], itRow w1.heap.size 3 1 (.slice none 0 0) 0 [], itRow w1.heap.size 54 2 (.slice none 0 0) 0 []]) := Lib.hid (s0.new (World.grownBy_alloc w2 _ none) (Blk.new w2 47 #[.slice AT n0 cT, .int .i64 110, .int .i64 (last : Int), .int .i64 0, .int .i64 0, .slice none 0 0, .slice none 0 0, .slice none 0 0, .int .i64 0, .int .i64 0]) (fun k hk => by injection hk with hk; rw [← hk]; exact Nat.le_refl _))
      have hB3 := Lib.hid (hB2.out.alloc hB2.out.size (.cells #[.slice AT n0 cT, .int .i64 110, .int .i64 (last : Int), .int .i64 0, .int .i64 0, .slice none 0 0, .slice none 0 0, .slice none 0 0, .int .i64 0, .int .i64 0] 47))
      have hpB : Hid (w1.heap.size ≤ w2.heap.size) := Lib.hid hB2.out.size
      clear s0 hB2 hrow
      go_upto_region 5 with fail
      generalize w2.alloc (.cells #[.slice AT n0 cT, .int .i64 110, .int .i64 (last : Int), .int .i64 0, .int .i64 0, .slice none 0 0, .slice none 0 0, .slice none 0 0, .int .i64 0, .int .i64 0] 47) = w3 at s1 hB3 ⊢
      generalize w2.heap.size = p at s1 hpB ⊢
      have s2 := s1
      have hB4 := hB3
      clear s1 hB3
      go_upto_region 7 with fail
      generalize w3 = w4 at s2 hB4 ⊢
      have hR0 : Hid (RvS T last true w1.heap.size p [] 0 (⟨T, [], [], []⟩ : PS) w4) := Lib.hid (by
        refine ⟨0, ⟨.slice AT n0 cT, .slice none 0 0, .slice none 0 0, .slice none 0 0, ?_, hpB.out⟩, ⟨rfl, Nat.zero_le _, rfl, Nat.zero_le _, (fun h hh => by cases hh), Nat.zero_le _, (fun t ht => by cases ht)⟩⟩
        rw [← hn0.out, List.append_nil]
        exact s2.out)
      have hPS := Lib.hid (sumV_all (B := w1.heap.size) (p := p) (wrong := true) hTo.out 64 0 rfl)
      have hp0 : Hid (textP last true (sumP last true 64) (T.length + 1) (⟨T, [], [], []⟩ : PS) = some r) := Lib.hid hp.out
      obtain ⟨m0, hm0⟩ : ∃ n, n = T.length + 1 := ⟨_, rfl⟩
      rw [← hm0] at hp0
      replace hm0 := Lib.hid hm0
      clear s2
      go_loopg [] m0 (fun kx wr => Hid (Below w1.heap.size w1 wr) ∧ Hid ((∃ (n : Nat) (st : PS), RvS T last true w1.heap.size p [] 0 st wr ∧ textP last true (sumP last true 64) n st = some r ∧ n ≤ kx) ∨ (∃ x y, r = .no x y ∧ (∃ vT vN vH vL i o, Blk wr p 47 (rvC vT true last i o vN vH vL x y)) ∧ y ≠ 0)))
      case atStart => exact ⟨hB4, Lib.hid (.inl ⟨m0, _, hR0.out, hp0.out, Nat.le_refl _⟩)⟩
      case round =>
        clear hB4 hR0 hp0
        obtain ⟨hB, hS⟩ := hrel
        rcases hS.out with ⟨n, st, ⟨i, hm, hk⟩, hpr, hnk⟩ | ⟨x, y, rfl, ⟨vT, vN, vH, vL, i, o, hK0⟩, hy0⟩
        case inr =>
          have c9 : wr.cell? ⟨p, 9, none⟩ = some (.int .i64 (y : Int)) := hK0.cell 9
          have hcI : ((y : Int) == 0) = false := k_ne (b := 0) hy0
          have hcJ : ((y : Int) != 0) = true := by rw [bne, hcI]; rfl
          have cZ := Lib.hid (rvsum0 hy0 c9)
          have hK := Lib.hid hK0
          have hy := Lib.hid hy0
          clear hS hK0 hy0
          go_wp2_with fail
          refine cZ.out.mono ?_
          rintro en wE ⟨rfl, rfl⟩
          have hBE := hB
          clear cZ hB
          have k2 := Lib.hid (Blk.below k1.out hBE.out)
          have y8 : wE.cell? ⟨p, 8, none⟩ = some (.int .i64 (x : Int)) := hK.out.cell 8
          have y9 : wE.cell? ⟨p, 9, none⟩ = some (.int .i64 (y : Int)) := hK.out.cell 9
          have x0 : wE.cell? ⟨g0, 0, none⟩ = some (.slice none 0 0) := k2.out.cell 0
          have x1 : wE.cell? ⟨g0, 1, none⟩ = some (.slice none 0 0) := k2.out.cell 1
          have x2 : wE.cell? ⟨g0, 2, none⟩ = some (.int .i64 0) := k2.out.cell 2
          have f0 := k2.out.frozen 0
          have f1 := k2.out.frozen 1
          have f2 := k2.out.frozen 2
          have hne : ¬ g0 = p := by have := hpB.out; have := hz1H.out; omega
          have hne2 : ¬ p = g0 := by have := hpB.out; have := hz1H.out; omega
          go_upto_region 13 with fail
          go_region
          all_goals
            go_wp2_with fail
            have K2 : Blk ((((wE.setCell ⟨g0, 0, none⟩ (.slice none 0 0)).setCell ⟨g0, 1, none⟩ (.slice none 0 0)).setCell ⟨g0, 2, none⟩ (.int .i64 0))).drew g0 25 #[.slice none 0 0, .slice none 0 0, .int .i64 0] := by
              have h := ((k2.out.set_ 0 (.slice none 0 0)).set_ 1 (.slice none 0 0)).set_ 2 (.int .i64 0)
              exact Blk.drew h
            have HB : Below g0 w ((((wE.setCell ⟨g0, 0, none⟩ (.slice none 0 0)).setCell ⟨g0, 1, none⟩ (.slice none 0 0)).setCell ⟨g0, 2, none⟩ (.int .i64 0))).drew := ((((hB0.out.trans (hBE.out.mono (by have := hz1H.out; omega))).setCell (p := ⟨g0, 0, none⟩) (Nat.le_refl _) (.slice none 0 0)).setCell (p := ⟨g0, 1, none⟩) (Nat.le_refl _) (.slice none 0 0)).setCell (p := ⟨g0, 2, none⟩) (Nat.le_refl _) (.int .i64 0)).drew
            have c0 := K2.cell 0
            have c1 := K2.cell 1
            have c2 := K2.cell 2
            refine bodyPost_ret (v := .tuple #[.agg #[.slice none 0 0, .slice none 0 0, .int .i64 0], .int .i64 (x : Int), .int .i64 (y : Int)]) (by simp [results, Tryz.results5, go_sem, c0, c1, c2]) rfl ⟨rfl, by rw [hg0']; exact HB, hy.out⟩
        case inl =>
          rcases n with _ | n
          · rw [textP] at hpr; cases hpr
          rw [textP] at hpr
          obtain ⟨c9, -⟩ := hm.cell_cd
          rw [show ((0 : Nat) : Int) = 0 from rfl] at c9
          have hM := Lib.hid (fun (W : World) (hb : Below wr.heap.size wr W) => hm.below hb)
          have cT := Lib.hid (rvText hTo.out.tl hm)
          have hBw := Lib.hid (show w1.heap.size ≤ wr.heap.size from hm.lt.2.1)
          have htx := hk.tx
          have hbt := (hTo.out.byt i).1
          have m1 := mkS_is hbt [108, 101, 116] (by unfold Byt; simp)
          obtain ⟨t, ht⟩ : ∃ t, t = txA T i := ⟨_, rfl⟩
          rw [← ht] at cT htx hbt m1
          rw [htx] at hpr
          obtain ⟨tk, htk⟩ : ∃ k, k = mkS t := ⟨_, rfl⟩
          rw [← htk] at cT m1
          replace htk := Lib.hid htk
          replace ht := Lib.hid ht
          have hil := Lib.hid hk.il
          clear hS hm hbt
          by_cases hx : t = [108, 101, 116]
          case pos =>
            have e1 : tk.toList = [108, 101, 116] := m1.2 hx
            have q1 : (tk.toList == [108, 101, 116]) = true := by rw [e1]; rfl
            rw [if_pos hx] at hpr
            obtain ⟨r1, hr1⟩ : ∃ r1, letP last true (sumP last true 64) st = some r1 := by
              rcases hf : letP last true (sumP last true 64) st with _ | r1
              · rw [hf] at hpr; cases hpr
              · exact ⟨r1, rfl⟩
            rw [hr1] at hpr
            have cL := Lib.hid (fun (W : World) (hb : Below wr.heap.size wr W) => rvLet hTo.out hPS.out (sumP_L 64) (sumP_good 64) (by rw [htx, hx]) (show RvS T last true w1.heap.size p [] 0 st W from ⟨i, hM.out W hb, hk⟩) r1 hr1)
            replace hr1 := Lib.hid hr1
            replace hpr := Lib.hid hpr
            clear hx m1 htx hk
            go_wp2_with fail
            refine cT.out.mono ?_
            rintro en w5 ⟨rfl, hdr⟩
            have hb5 := Lib.hid (hdr.below wr.heap.size)
            have hB5 := Lib.hid (hB.out.trans (hb5.out.mono hBw.out))
            clear hdr cT
            go_wp2_with fail
            refine (cL.out _ hb5.out).mono ?_
            clear cL
            rcases r1 with ⟨u, st1⟩ | ⟨x, y⟩
            case no =>
              have hrx : r = .no x y := (Option.some.inj hpr.out).symm
              subst hrx
              rintro en w6 ⟨rfl, hK6, hB6, hy⟩
              replace hK6 := Lib.hid hK6
              replace hB6 := Lib.hid (hB5.out.trans hB6)
              replace hy := Lib.hid hy
              clear hB hB5 hM
              go_wp2_with fail
              go_roundg n
              case measure => omega
              case rel => exact ⟨hB6, Lib.hid (.inr ⟨x, y, rfl, hK6.out, hy.out⟩)⟩
            case ok =>
              rintro en w6 ⟨rfl, hR6, hB6⟩
              replace hR6 := Lib.hid hR6
              replace hB6 := Lib.hid (hB5.out.trans hB6)
              clear hB hB5 hM
              go_wp2_with fail
              go_roundg n
              case measure => omega
              case rel => exact ⟨hB6, Lib.hid (.inl ⟨n, st1, hR6.out, hpr.out, Nat.le_refl _⟩)⟩
          case neg =>
            have e1 : ¬ tk.toList = [108, 101, 116] := fun e => hx (m1.1 e)
            have q1 : (tk.toList == [108, 101, 116]) = false := beq_eq_false_iff_ne.2 e1
            rw [if_neg hx] at hpr
            obtain ⟨r1, hr1⟩ := mapP_ex hpr
            have cS := Lib.hid (fun (W : World) (hb : Below wr.heap.size wr W) => hPS.out [] st W r1 ⟨i, hM.out W hb, hk⟩ hr1)
            replace hr1 := Lib.hid hr1
            clear hx m1 htx hk
            go_wp2_with fail
            refine cT.out.mono ?_
            rintro en w5 ⟨rfl, hdr⟩
            have hb5 := Lib.hid (hdr.below wr.heap.size)
            have hB5 := Lib.hid (hB.out.trans (hb5.out.mono hBw.out))
            clear hdr cT
            go_wp2_with fail
            refine (cS.out _ hb5.out).mono ?_
            clear cS c9 hM hB
            rcases r1 with ⟨m, st1⟩ | ⟨x, y⟩
            case no =>
              have hrx : r = .no x y := mapP_no hr1.out hpr
              subst hrx
              rintro en wE ⟨⟨z, rfl⟩, ⟨o1, i1, N1, H1, hM6⟩, hB6, hy⟩
              have hK : Hid (∃ vT vN vH vL, Blk wE p 47 (rvC vT true last i1 o1 vN vH vL x y)) := Lib.hid hM6.blk
              have c9 : wE.cell? ⟨p, 9, none⟩ = some (.int .i64 (y : Int)) := (hM6.cell_cd).1
              have hcI : ((y : Int) == 0) = false := k_ne (b := 0) hy
              have hcJ : ((y : Int) != 0) = true := by rw [bne, hcI]; rfl
              replace hy := Lib.hid hy
              have hBE := Lib.hid (hB5.out.trans hB6)
              clear hM6 hB6 hB5 hpr
              obtain ⟨vT, vN, vH, vL, hK⟩ := hK.out
              replace hK := Lib.hid hK
              have k2 := Lib.hid (Blk.below k1.out hBE.out)
              have y8 : wE.cell? ⟨p, 8, none⟩ = some (.int .i64 (x : Int)) := hK.out.cell 8
              have y9 : wE.cell? ⟨p, 9, none⟩ = some (.int .i64 (y : Int)) := hK.out.cell 9
              have x0 : wE.cell? ⟨g0, 0, none⟩ = some (.slice none 0 0) := k2.out.cell 0
              have x1 : wE.cell? ⟨g0, 1, none⟩ = some (.slice none 0 0) := k2.out.cell 1
              have x2 : wE.cell? ⟨g0, 2, none⟩ = some (.int .i64 0) := k2.out.cell 2
              have f0 := k2.out.frozen 0
              have f1 := k2.out.frozen 1
              have f2 := k2.out.frozen 2
              have hne : ¬ g0 = p := by have := hpB.out; have := hz1H.out; omega
              have hne2 : ¬ p = g0 := by have := hpB.out; have := hz1H.out; omega
              go_upto_region 13 with fail
              go_region
              all_goals
                go_wp2_with fail
                have K2 : Blk ((((wE.setCell ⟨g0, 0, none⟩ (.slice none 0 0)).setCell ⟨g0, 1, none⟩ (.slice none 0 0)).setCell ⟨g0, 2, none⟩ (.int .i64 0))).drew g0 25 #[.slice none 0 0, .slice none 0 0, .int .i64 0] := by
                  have h := ((k2.out.set_ 0 (.slice none 0 0)).set_ 1 (.slice none 0 0)).set_ 2 (.int .i64 0)
                  exact Blk.drew h
                have HB : Below g0 w ((((wE.setCell ⟨g0, 0, none⟩ (.slice none 0 0)).setCell ⟨g0, 1, none⟩ (.slice none 0 0)).setCell ⟨g0, 2, none⟩ (.int .i64 0))).drew := ((((hB0.out.trans (hBE.out.mono (by have := hz1H.out; omega))).setCell (p := ⟨g0, 0, none⟩) (Nat.le_refl _) (.slice none 0 0)).setCell (p := ⟨g0, 1, none⟩) (Nat.le_refl _) (.slice none 0 0)).setCell (p := ⟨g0, 2, none⟩) (Nat.le_refl _) (.int .i64 0)).drew
                have c0 := K2.cell 0
                have c1 := K2.cell 1
                have c2 := K2.cell 2
                refine bodyPost_ret (v := .tuple #[.agg #[.slice none 0 0, .slice none 0 0, .int .i64 0], .int .i64 (x : Int), .int .i64 (y : Int)]) (by simp [results, Tryz.results5, go_sem, c0, c1, c2]) rfl ⟨rfl, by rw [hg0']; exact HB, hy.out⟩
            case ok =>
              rintro en w6 ⟨rfl, ⟨i1, hm6, hk6⟩, hB6, hm9, hN6⟩
              have hpr := mapP_ok hr1.out hpr
              have hB7 := Lib.hid (hB5.out.trans hB6)
              obtain ⟨c9, -⟩ := hm6.cell_cd
              rw [show ((0 : Nat) : Int) = 0 from rfl] at c9
              obtain ⟨c3, -⟩ := hm6.cell_i
              have hil6 := hk6.il
              have hT6 : st1.T = [] ↔ ¬ i1 < T.length := by
                rw [hk6.iT, List.drop_eq_nil_iff]; omega
              rw [← hn0.out] at hT6 hil6
              clear hB5 hB6
              by_cases hend : i1 < n0
              case pos =>
                have hiI : (i1 : Int) < (n0 : Int) := by omega
                rw [if_neg (by intro h; exact (hT6.1 h.1) hend)] at hpr
                have hu2 := hpr
                obtain ⟨x, y, hu⟩ : ∃ x y, (unwP last true st1 : PR Nat) = .no x y := by
                  rcases hu : (unwP last true st1 : PR Nat) with ⟨v, st2⟩ | ⟨x, y⟩
                  · exact (unwP_ok hu).elim
                  · exact ⟨x, y, rfl⟩
                have hrx : r = .no x y := by rw [hu] at hu2; exact (Option.some.inj hu2).symm
                subst hrx
                have cU := Lib.hid (rvWant (st := st1) hTo.out hm6 hk6 hu)
                replace hu := Lib.hid hu
                clear hpr hu2 hm6 hk6 hm9 hN6 hT6 hil6
                go_wp2_with fail
                refine cU.out.mono ?_
                rintro en wE ⟨rfl, ⟨o1, i2, N1, H1, hM6⟩, hB6, hy⟩
                have hK : Hid (∃ vT vN vH vL, Blk wE p 47 (rvC vT true last i2 o1 vN vH vL x y)) := Lib.hid hM6.blk
                have hcI : ((y : Int) == 0) = false := k_ne (b := 0) hy
                have hcJ : ((y : Int) != 0) = true := by rw [bne, hcI]; rfl
                replace hy := Lib.hid hy
                have hBE := Lib.hid (hB7.out.trans hB6)
                clear hM6 hB6 hB7 c9 c3 cU
                obtain ⟨vT, vN, vH, vL, hK⟩ := hK.out
                replace hK := Lib.hid hK
                have k2 := Lib.hid (Blk.below k1.out hBE.out)
                have y8 : wE.cell? ⟨p, 8, none⟩ = some (.int .i64 (x : Int)) := hK.out.cell 8
                have y9 : wE.cell? ⟨p, 9, none⟩ = some (.int .i64 (y : Int)) := hK.out.cell 9
                have x0 : wE.cell? ⟨g0, 0, none⟩ = some (.slice none 0 0) := k2.out.cell 0
                have x1 : wE.cell? ⟨g0, 1, none⟩ = some (.slice none 0 0) := k2.out.cell 1
                have x2 : wE.cell? ⟨g0, 2, none⟩ = some (.int .i64 0) := k2.out.cell 2
                have f0 := k2.out.frozen 0
                have f1 := k2.out.frozen 1
                have f2 := k2.out.frozen 2
                have hne : ¬ g0 = p := by have := hpB.out; have := hz1H.out; omega
                have hne2 : ¬ p = g0 := by have := hpB.out; have := hz1H.out; omega
                go_upto_region 13 with fail
                go_region
                all_goals
                  go_wp2_with fail
                  have K2 : Blk ((((wE.setCell ⟨g0, 0, none⟩ (.slice none 0 0)).setCell ⟨g0, 1, none⟩ (.slice none 0 0)).setCell ⟨g0, 2, none⟩ (.int .i64 0))).drew g0 25 #[.slice none 0 0, .slice none 0 0, .int .i64 0] := by
                    have h := ((k2.out.set_ 0 (.slice none 0 0)).set_ 1 (.slice none 0 0)).set_ 2 (.int .i64 0)
                    exact Blk.drew h
                  have HB : Below g0 w ((((wE.setCell ⟨g0, 0, none⟩ (.slice none 0 0)).setCell ⟨g0, 1, none⟩ (.slice none 0 0)).setCell ⟨g0, 2, none⟩ (.int .i64 0))).drew := ((((hB0.out.trans (hBE.out.mono (by have := hz1H.out; omega))).setCell (p := ⟨g0, 0, none⟩) (Nat.le_refl _) (.slice none 0 0)).setCell (p := ⟨g0, 1, none⟩) (Nat.le_refl _) (.slice none 0 0)).setCell (p := ⟨g0, 2, none⟩) (Nat.le_refl _) (.int .i64 0)).drew
                  have c0 := K2.cell 0
                  have c1 := K2.cell 1
                  have c2 := K2.cell 2
                  refine bodyPost_ret (v := .tuple #[.agg #[.slice none 0 0, .slice none 0 0, .int .i64 0], .int .i64 (x : Int), .int .i64 (y : Int)]) (by simp [results, Tryz.results5, go_sem, c0, c1, c2]) rfl ⟨rfl, by rw [hg0']; exact HB, hy.out⟩
              have hiI : ¬ (i1 : Int) < (n0 : Int) := by omega
              rw [if_neg (by intro h; cases h.2)] at hpr
              have hu2 := hpr
              obtain ⟨x, y, hu⟩ : ∃ x y, (unwP last true st1 : PR Nat) = .no x y := by
                rcases hu : (unwP last true st1 : PR Nat) with ⟨v, st2⟩ | ⟨x, y⟩
                · exact (unwP_ok hu).elim
                · exact ⟨x, y, rfl⟩
              have hrx : r = .no x y := by rw [hu] at hu2; exact (Option.some.inj hu2).symm
              subst hrx
              have cU := Lib.hid (rvWant (st := st1) hTo.out hm6 hk6 hu)
              replace hu := Lib.hid hu
              clear hpr hu2 hm6 hk6 hm9 hN6 hT6 hil6
              go_wp2_with fail
              refine cU.out.mono ?_
              rintro en wE ⟨rfl, ⟨o1, i2, N1, H1, hM6⟩, hB6, hy⟩
              have hK : Hid (∃ vT vN vH vL, Blk wE p 47 (rvC vT true last i2 o1 vN vH vL x y)) := Lib.hid hM6.blk
              have hcI : ((y : Int) == 0) = false := k_ne (b := 0) hy
              have hcJ : ((y : Int) != 0) = true := by rw [bne, hcI]; rfl
              replace hy := Lib.hid hy
              have hBE := Lib.hid (hB7.out.trans hB6)
              clear hM6 hB6 hB7 c9 c3 cU
              obtain ⟨vT, vN, vH, vL, hK⟩ := hK.out
              replace hK := Lib.hid hK
              have k2 := Lib.hid (Blk.below k1.out hBE.out)
              have y8 : wE.cell? ⟨p, 8, none⟩ = some (.int .i64 (x : Int)) := hK.out.cell 8
              have y9 : wE.cell? ⟨p, 9, none⟩ = some (.int .i64 (y : Int)) := hK.out.cell 9
              have x0 : wE.cell? ⟨g0, 0, none⟩ = some (.slice none 0 0) := k2.out.cell 0
              have x1 : wE.cell? ⟨g0, 1, none⟩ = some (.slice none 0 0) := k2.out.cell 1
              have x2 : wE.cell? ⟨g0, 2, none⟩ = some (.int .i64 0) := k2.out.cell 2
              have f0 := k2.out.frozen 0
              have f1 := k2.out.frozen 1
              have f2 := k2.out.frozen 2
              have hne : ¬ g0 = p := by have := hpB.out; have := hz1H.out; omega
              have hne2 : ¬ p = g0 := by have := hpB.out; have := hz1H.out; omega
              go_upto_region 13 with fail
              go_region
              all_goals
                go_wp2_with fail
                have K2 : Blk ((((wE.setCell ⟨g0, 0, none⟩ (.slice none 0 0)).setCell ⟨g0, 1, none⟩ (.slice none 0 0)).setCell ⟨g0, 2, none⟩ (.int .i64 0))).drew g0 25 #[.slice none 0 0, .slice none 0 0, .int .i64 0] := by
                  have h := ((k2.out.set_ 0 (.slice none 0 0)).set_ 1 (.slice none 0 0)).set_ 2 (.int .i64 0)
                  exact Blk.drew h
                have HB : Below g0 w ((((wE.setCell ⟨g0, 0, none⟩ (.slice none 0 0)).setCell ⟨g0, 1, none⟩ (.slice none 0 0)).setCell ⟨g0, 2, none⟩ (.int .i64 0))).drew := ((((hB0.out.trans (hBE.out.mono (by have := hz1H.out; omega))).setCell (p := ⟨g0, 0, none⟩) (Nat.le_refl _) (.slice none 0 0)).setCell (p := ⟨g0, 1, none⟩) (Nat.le_refl _) (.slice none 0 0)).setCell (p := ⟨g0, 2, none⟩) (Nat.le_refl _) (.int .i64 0)).drew
                have c0 := K2.cell 0
                have c1 := K2.cell 1
                have c2 := K2.cell 2
                refine bodyPost_ret (v := .tuple #[.agg #[.slice none 0 0, .slice none 0 0, .int .i64 0], .int .i64 (x : Int), .int .i64 (y : Int)]) (by simp [results, Tryz.results5, go_sem, c0, c1, c2]) rfl ⟨rfl, by rw [hg0']; exact HB, hy.out⟩
end Go.Proofs.YtnaadajcehfmiaaGreatDoor
