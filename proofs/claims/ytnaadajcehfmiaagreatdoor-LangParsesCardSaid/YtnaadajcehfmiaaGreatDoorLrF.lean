/- lang: row, term, sum. -/
import Derived.Test.YtnaadajcehfmiaaGreatDoorLrE
namespace Go.Proofs.YtnaadajcehfmiaaGreatDoor
open Go.RowKit Go.Sort Go.Maps

/-- A method that reads a part. -/
def PartC (fn : FuncId) (s : ByteArray) (last : Nat) (wrong : Bool) (B p gm o : Nat) (f : PF) : Prop :=
  ∀ (X : List It) (st : PS) (w : World) (r : PR Nat), RdS s last wrong B p gm X o st w → f st = some r → Calls Tryz.prog fn #[.pointer (some ⟨p, 0, none⟩)] w (PostN s last wrong B p gm X o st w r)
/-- The map of signs. -/
def SignsD (D : DataW Unit) (sg : List Nat → Option Nat) : Prop :=
  ∀ t, Byt t → Maps.has D (.string (mkS t).data.toList) = (sg t).isSome ∧ ∀ k, sg t = some k → D.atKey (.string (mkS t).data.toList) (.lit (.int .u8 0)) = .lit (.int .u8 (k : Int))
theorem lawStr9 : Keyed Tryz.prog 9 := string_keyed Tryz.underlying9
theorem zeroNK (W : World) : (zeroValue 50).run Tryz.prog W = .ok (.int .u8 0) W := by kernel_rfl
section
variable {s : ByteArray} {last : Nat} {wrong : Bool} {B p gm o : Nat} {X : List It} {st : PS} {w w' : World}
theorem RdS.side (h : RdS s last wrong B p gm X o st w) : Sep w X := by
  obtain ⟨nx, vN, vL, vH, D, h1, h2⟩ := h
  exact h1.sub (List.sublist_append_right _ _)
theorem RdS.push {a : It} (h : RdS s last wrong B p gm X o st w) (hg : w.grownBy w' none) (hP : a.P w') (hl : ∀ k, a.own = some k → w.heap.size ≤ k) : RdS s last wrong B p gm (X ++ [a]) o st w' := by
  obtain ⟨nx, vN, vL, vH, D, h1, h2⟩ := h
  refine ⟨nx, vN, vL, vH, D, ?_, h2⟩
  have := h1.newR hg hP hl
  rwa [List.append_assoc] at this
theorem RdS.pop {a : It} (h : RdS s last wrong B p gm (X ++ [a]) o st w) : RdS s last wrong B p gm X o st w := by
  obtain ⟨nx, vN, vL, vH, D, h1, h2⟩ := h
  exact ⟨nx, vN, vL, vH, D, h1.sub (List.Sublist.append (List.Sublist.refl _) (List.sublist_append_left _ _)), h2⟩
theorem RdS.turn {a a' : It} (h : RdS s last wrong B p gm (X ++ [a]) o st w) (hg : w.grownBy w' a.own) (hP : a'.P w') (hloc : ∀ k, a'.own = some k → a.own = some k ∨ w.heap.size ≤ k) : RdS s last wrong B p gm (X ++ [a']) o st w' := by
  obtain ⟨nx, vN, vL, vH, D, h1, h2⟩ := h
  refine ⟨nx, vN, vL, vH, D, ?_, h2⟩
  rw [← List.append_assoc] at h1 ⊢
  exact Sep.upd h1 hg hP hloc
theorem RdS.last_ {a : It} (h : RdS s last wrong B p gm (X ++ [a]) o st w) : a.P w := h.side.1 a (by simp)
theorem RdS.tsz (h : RdS s last wrong B p gm X o st w) : (mkS st.tx).size ≤ 16384 := by
  obtain ⟨nx, vN, vL, vH, D, h1, h2, h3, h4⟩ := h
  rw [mkS_size]
  unfold PS.tx
  rcases hT : st.T with _ | ⟨t, T⟩
  · simp
  · exact (h3.toks t (by rw [hT]; exact List.mem_cons_self ..)).2.1
theorem PostN.pop {a : It} {r : PR Nat} {e : Ending} (h : PostN s last wrong B p gm (X ++ [a]) o st w r e w') : PostN s last wrong B p gm X o st w r e w' := by
  cases r with
  | ok v st' =>
    obtain ⟨h1, h2, h3⟩ := h
    exact ⟨h1, h2.pop, h3⟩
  | no a c => exact h
set_option maxRecDepth 100000 in
set_option maxHeartbeats 4000000 in
/-- row -/
theorem row_rd {ms : Nat} {DS : DataW Unit} {sg : List Nat → Option Nat} {F : FuncId} {f : PF} (hcf : ∀ (args : Array Value) (W : World), (callFunc F args).run Tryz.prog W = .ok (.enter F args) W) (hsg : sg [] = none) (hD : SignsD DS sg) (hp : PartC F s last wrong B p gm o f)
    (h : RdS s last wrong B p gm (X ++ [itMap Tryz.prog 9 (plainElem (H := Unit) Tryz.prog 50) ms 2 DS]) o st w) (r : PR Nat) (hr : rowP last sg f st = some r) :
    Calls Tryz.prog 41 #[.pointer (some ⟨p, 0, none⟩), .map (some ms), .func (.func F) #[] #[]] w (PostN s last wrong B p gm (X ++ [itMap Tryz.prog 9 (plainElem (H := Unit) Tryz.prog 50) ms 2 DS]) o st w r) := by
  obtain ⟨r1, hr1⟩ : ∃ r1, f st = some r1 := by
    unfold rowP at hr
    rcases hf : f st with _ | r1
    · rw [hf] at hr; cases hr
    · exact ⟨r1, rfl⟩
  have c1 := Lib.hid (hp _ st w r1 h hr1)
  have hpH := Lib.hid hp
  have hDH := Lib.hid hD
  have hsgH := Lib.hid hsg
  obtain ⟨X', hX'⟩ : ∃ Y, Y = X ++ [itMap Tryz.prog 9 (plainElem (H := Unit) Tryz.prog 50) ms 2 DS] := ⟨_, rfl⟩
  have hMP : Hid (∀ (st : PS) (W : World), RdS s last wrong B p gm X' o st W → W.ownsMap Tryz.prog 9 (plainElem (H := Unit) Tryz.prog 50) ms 2 DS) := Lib.hid (fun st W hW => by rw [hX'] at hW; exact hW.last_)
  rw [← hX'] at c1 ⊢
  unfold rowP at hr
  rw [hr1] at hr
  replace hr1 := Lib.hid hr1
  replace hX' := Lib.hid hX'
  clear h hp hD hsg
  rcases r1 with ⟨a, st1⟩ | ⟨x, y⟩
  case no =>
    have hrr : r = .no x y := (Option.some.inj hr).symm
    subst hrr
    replace hr := Lib.hid hr
    go_enter Tryz.func41, Tryz.ntmps41
    go_wp2_with fail
    refine c1.out.mono ?_
    rintro en w1 ⟨q, rfl, hq⟩
    exact ⟨rfl, q, rfl, hq⟩
  case ok =>
    have hr : rowL last sg f (st1.T.length + 1) a st1 = some r := hr
    obtain ⟨n0, hn0⟩ : ∃ n, n = st1.T.length + 1 := ⟨_, rfl⟩
    rw [← hn0] at hr
    replace hr := Lib.hid hr
    replace hn0 := Lib.hid hn0
    go_enter Tryz.func41, Tryz.ntmps41
    go_wp2_with fail
    refine c1.out.mono ?_
    rintro en w1 ⟨rfl, h1, hB1, ha, hN⟩
    replace h1 := Lib.hid h1
    replace hB1 := Lib.hid hB1
    clear c1
    go_wp2_with fail
    go_loopg [7] n0 (fun kx s7 wr => ∃ (n a' : Nat) (st' : PS), s7 = .int .i64 (a' : Int) ∧ Hid (RdS s last wrong B p gm X' o st' wr) ∧ Hid (Below B w wr) ∧ Hid (a' < st'.N.length) ∧ Hid (st.N.length ≤ st'.N.length) ∧ Hid (rowL last sg f n a' st' = some r) ∧ n ≤ kx)
    case atStart => exact ⟨n0, a, st1, rfl, h1, hB1, Lib.hid ha, Lib.hid hN, hr, Nat.le_refl _⟩
    case round =>
      obtain ⟨n, a', st', rfl, hR, hB, ha2, hN2, hrl, hnk⟩ := hrel
      rcases n with _ | n
      · have := hrl.out
        rw [rowL] at this
        cases this
      have hrl2 := hrl.out
      rw [rowL] at hrl2
      have b2 : wr.cell? ⟨p, 2, none⟩ = some (.string (mkS st'.tx)) := hR.out.token
      have b1 : wr.cell? ⟨p, 1, none⟩ = some (.int .i64 (st'.pl last : Int)) := hR.out.from_
      have hM := Lib.hid (hMP.out st' wr hR.out)
      have hbyt := hR.out.byt
      have hkey := Lib.hid (WideMaps.keyOf_string_mk Tryz.underlying9 (s := mkS st'.tx) (by have := hR.out.tsz; unfold maxLen; omega))
      obtain ⟨hh1, hh2⟩ := hDH.out st'.tx hbyt
      replace hrl := Lib.hid hrl2
      clear hrl2 hbyt
      rcases hs : sg st'.tx with _ | k
      case none =>
        rw [hs] at hh1
        have hrl := hrl.out
        rw [hs] at hrl
        have hrr : r = .ok a' st' := (Option.some.inj hrl).symm
        have hhh : Hid (Maps.has DS (.string (mkS st'.tx).data.toList) = false) := Lib.hid hh1
        clear hh1 hh2 hrl hs
        subst hrr
        go_wp2_with (at_lookup; refine wpList_lookup_own_ok_int _ rfl _ _ 79 rfl 9 50 .u8 lawStr9 Tryz.underlying79 Tryz.underlying50 (zeroNK _) ms 2 DS rfl hM.out _ _ rfl hkey.out ?_; intro c hat hwc; rw [hhh.out]; clear hat hwc)
        go_ret
        exact ⟨rfl, hR.out, hB.out, ha2.out, hN2.out⟩
      case some =>
        rw [hs] at hh1
        have hrl := hrl.out
        rw [hs] at hrl
        have hhh : Hid (Maps.has DS (.string (mkS st'.tx).data.toList) = true) := Lib.hid hh1
        have hat0 := Lib.hid (hh2 k hs)
        have hne : st'.T ≠ [] := fun e => by
          have e2 : st'.tx = [] := by unfold PS.tx; rw [e]
          rw [e2, hsgH.out] at hs
          cases hs
        have cO := Lib.hid (onS hR.out hne)
        replace hs := Lib.hid hs
        replace hne := Lib.hid hne
        obtain ⟨r2, hr2⟩ : ∃ r2, f st'.on = some r2 := by
          simp only at hrl
          rcases hf : f st'.on with _ | r2
          · rw [hf] at hrl; cases hrl
          · exact ⟨r2, rfl⟩
        simp only [hr2] at hrl
        have cP : Hid (∀ W, RdS s last wrong B p gm X' o st'.on W → Calls Tryz.prog F #[.pointer (some ⟨p, 0, none⟩)] W (PostN s last wrong B p gm X' o st'.on W r2)) := Lib.hid (fun W hW => hpH.out _ _ W r2 hW hr2)
        replace hr2 := Lib.hid hr2
        replace hrl := Lib.hid hrl
        obtain ⟨pl0, hpl0⟩ : ∃ q, q = st'.pl last := ⟨_, rfl⟩
        rw [← hpl0] at b1
        replace hpl0 := Lib.hid hpl0
        have hon : Hid (st'.on.N = st'.N) := Lib.hid rfl
        clear hh1 hh2
        go_wp2_with (at_lookup; refine wpList_lookup_own_ok_int _ rfl _ _ 79 rfl 9 50 .u8 lawStr9 Tryz.underlying79 Tryz.underlying50 (zeroNK _) ms 2 DS rfl hM.out _ _ rfl hkey.out ?_; intro c hat hwc; rw [hhh.out]; obtain rfl : c = (k : Int) := (by have e := hat.symm.trans hat0.out; injection e with e; injection e); clear hat hwc)
        refine cO.out.mono ?_
        rintro en w2 ⟨rfl, hR2, hB2⟩
        replace hR2 := Lib.hid hR2
        replace hB2 := Lib.hid (hB.out.trans hB2)
        clear cO b1 b2 hM hR
        go_wp2_with fail
        refine (cP.out _ hR2.out).mono ?_
        clear cP
        rcases r2 with ⟨b, st2⟩ | ⟨x, y⟩
        case no =>
          have hrr : r = .no x y := (Option.some.inj hrl.out).symm
          subst hrr
          rintro en w3 hqq
          obtain ⟨q, rfl, h9⟩ := PanF.pre hqq hB2.out
          exact ⟨rfl, q, rfl, h9⟩
        case ok =>
          rintro en w3 ⟨rfl, hR3, hB3, hb3, hN3⟩
          have ha3 : a' < st2.N.length := Nat.lt_of_lt_of_le ha2.out (by rw [← hon.out]; exact hN3)
          have hN4 := Lib.hid (Nat.le_trans hN2.out (by rw [← hon.out]; exact hN3))
          have c2 := two_rd ⟨k, [], a', b, 0⟩ pl0 hR3 ha3 hb3
          have hrl2 := hrl.out
          simp only at hrl2
          rw [← hpl0.out] at hrl2
          obtain ⟨r3, hr3⟩ : ∃ r3, r3 = addP ⟨k, [], a', b, 0⟩ (1 + max (st2.hi a') (st2.hi b)) pl0 st2 := ⟨_, rfl⟩
          rw [← hr3] at hrl2 c2
          have e0 : mkS [] = (⟨#[]⟩ : ByteArray) := rfl
          rw [e0] at c2
          replace c2 := Lib.hid c2
          replace hr3 := Lib.hid hr3
          replace hrl := Lib.hid hrl2
          replace hR3 := Lib.hid hR3
          replace hB3 := Lib.hid (hB2.out.trans hB3)
          clear hrl2 ha3 hb3 hN3 hB2 hR2 hpl0
          go_wp2_with fail
          refine c2.out.mono ?_
          clear c2
          rcases r3 with ⟨c, st3⟩ | ⟨x, y⟩
          case no =>
            have hrr : r = .no x y := (Option.some.inj hrl.out).symm
            subst hrr
            rintro en w4 hqq
            obtain ⟨q, rfl, h9⟩ := PanF.pre hqq hB3.out
            exact ⟨rfl, q, rfl, h9⟩
          case ok =>
            rintro en w4 ⟨rfl, hR4, hB4, hc4, hN5⟩
            replace hR4 := Lib.hid hR4
            replace hB4 := Lib.hid (hB3.out.trans hB4)
            replace hc4 := Lib.hid hc4
            replace hN5 := Lib.hid (Nat.le_trans hN4.out hN5)
            clear hR3 hB3 hB
            go_wp2_with fail
            go_roundg n
            case measure => omega
            case rel => exact ⟨n, c, st3, rfl, hR4, hB4, hc4, hN5, hrl, Nat.le_refl _⟩
theorem signs_two (sg : List Nat → Option Nat) (c1 c2 : UInt8) (k1 k2 : Nat) (h1 : c1 ≠ c2) (b1 : c1.toNat < 256) (b2 : c2.toNat < 256)
    (hsg : ∀ t, sg t = if t = [c1.toNat] then some k1 else if t = [c2.toNat] then some k2 else none) :
    SignsD (((DataW.map []).put (.string [c1]) (.lit (.int .u8 (k1 : Int)))).put (.string [c2]) (.lit (.int .u8 (k2 : Int)))) sg := by
  have i0 : IsMap (DataW.map [] : DataW Unit) := isMap_empty
  have i1 := i0.put (.string [c1]) (.lit (.int .u8 (k1 : Int)))
  have q1 : WideAt.IsKeyLit (Lit.string [c1]) := trivial
  have q2 : WideAt.IsKeyLit (Lit.string [c2]) := trivial
  intro t ht
  have e1 : t = [c1.toNat] ↔ (mkS t).data.toList = [c1] := by
    have := mkS_is ht [c1.toNat] (fun b hb => by rw [List.mem_singleton.1 hb]; exact b1)
    rw [← this, ByteArray.toList_eq]
    simp
  have e2 : t = [c2.toNat] ↔ (mkS t).data.toList = [c2] := by
    have := mkS_is ht [c2.toNat] (fun b hb => by rw [List.mem_singleton.1 hb]; exact b2)
    rw [← this, ByteArray.toList_eq]
    simp
  have n12 : Lit.string [c1] ≠ Lit.string [c2] := fun e => by
    injection e with e
    injection e with e
    exact h1 e
  rw [hsg t]
  by_cases h2 : t = [c2.toNat]
  · have n1 : t ≠ [c1.toNat] := fun e => by
      rw [e] at h2
      injection h2 with h2
      exact h1 (UInt8.toNat_inj.1 h2)
    rw [if_neg n1, if_pos h2, e2.1 h2]
    refine ⟨has_put_same i1 q2 _, fun k hk2 => ?_⟩
    injection hk2 with hk2
    rw [← hk2]
    exact atKey_put_same i1 q2 _ _
  · have k2' : Lit.string (mkS t).data.toList ≠ Lit.string [c2] := fun e => by
      injection e with e
      exact h2 (e2.2 e)
    rw [has_put_other k2', atKey_put_other k2']
    by_cases h3 : t = [c1.toNat]
    · rw [if_pos h3, e1.1 h3]
      refine ⟨has_put_same i0 q1 _, fun k hk2 => ?_⟩
      injection hk2 with hk2
      rw [← hk2]
      exact atKey_put_same i0 q1 _ _
    · have k1' : Lit.string (mkS t).data.toList ≠ Lit.string [c1] := fun e => by
        injection e with e
        exact h3 (e1.2 e)
      rw [if_neg h3, if_neg h2, has_put_other k1', atKey_put_other k1']
      exact ⟨rfl, fun k hk2 => by cases hk2⟩
set_option maxRecDepth 100000 in
set_option maxHeartbeats 4000000 in
/-- term -/
theorem term_rd {f : PF} (hp : PartC 67 s last wrong B p gm o f) : PartC 42 s last wrong B p gm o (rowP last mulS f) := by
  intro X st w r h hr
  have hmm := @run_makeMap Tryz.prog
  have hlt := h.lt
  have hM0 : (w.alloc (.map #[] 0)).ownsMap Tryz.prog 9 (plainElem (H := Unit) Tryz.prog 50) w.heap.size 0 (.map []) := World.ownsMap_made _ _ _ _
  have hk1 := WideMaps.keyOf_string_mk Tryz.underlying9 (s := ⟨#[42]⟩) (by unfold maxLen; decide)
  have hk2 := WideMaps.keyOf_string_mk Tryz.underlying9 (s := ⟨#[47]⟩) (by unfold maxLen; decide)
  obtain ⟨w2, hr1, hM1, hg1⟩ := hM0.update (val := .int .u8 8) lawStr9 Tryz.underlying79 (by unfold maxLen; omega) hk1 (plainElem_int Tryz.underlying50 (by decide))
  obtain ⟨w3, hr2, hM2, hg2⟩ := hM1.update (val := .int .u8 9) lawStr9 Tryz.underlying79 (by unfold maxLen; omega) hk2 (plainElem_int Tryz.underlying50 (by decide))
  have hgN : w.grownBy w3 none := ⟨hg2.os.trans (hg1.os.trans rfl), hg2.tape.trans (hg1.tape.trans rfl), hg2.output.trans (hg1.output.trans rfl), by
    have a1 := hg1.size
    have a2 := hg2.size
    rw [World.size_alloc] at a1
    omega, fun j hj _ => by
    have a1 := hg1.size
    rw [World.size_alloc] at a1
    exact (hg2.block j (by omega) (fun e => by injection e with e; omega)).trans ((hg1.block j (by rw [World.size_alloc]; omega) (fun e => by injection e with e; omega)).trans (Below.heap_alloc w _ j hj))⟩
  obtain ⟨DS, hDS⟩ : ∃ D : DataW Unit, D = ((DataW.map []).put (.string [42]) (.lit (.int .u8 8))).put (.string [47]) (.lit (.int .u8 9)) := ⟨_, rfl⟩
  have hSg : SignsD DS mulS := by rw [hDS]; exact signs_two mulS 42 47 8 9 (by decide) (by decide) (by decide) (fun t => rfl)
  obtain ⟨ms, hms⟩ : ∃ m, m = w.heap.size := ⟨_, rfl⟩
  have hM3 : w3.ownsMap Tryz.prog 9 (plainElem (H := Unit) Tryz.prog 50) ms 2 DS := by rw [hms, hDS]; exact hM2
  have hP := h.push (a := itMap Tryz.prog 9 (plainElem (H := Unit) Tryz.prog 50) ms 2 DS) hgN hM3 (fun k hk => by
    injection hk with hk
    omega)
  have hB3 := Lib.hid (show Below B w w3 from ⟨hgN.os, hgN.tape, hgN.output, hgN.size, fun j hj => hgN.block j (by omega) (by simp)⟩)
  have cR := Lib.hid (row_rd (F := 67) (fun _ _ => by rfl) rfl hSg hp hP r hr)
  rw [← hms] at hr1 hr2
  have hms2 : w.heap.size = ms := hms.symm
  replace hms := Lib.hid hms
  replace h := Lib.hid h
  replace hr := Lib.hid hr
  replace hp := Lib.hid hp
  clear hM0 hk1 hk2 hM1 hg1 hM2 hg2 hgN hDS hSg hM3 hP
  go_enter Tryz.func42, Tryz.ntmps42
  go_wp2_with fail
  refine cR.out.mono ?_
  rintro en w4 h4
  replace h4 := PostN.pop (PostN.pre h4 hB3.out)
  rcases r with ⟨v, st'⟩ | ⟨a, c⟩
  · obtain ⟨rfl, h5⟩ := h4
    replace h5 := Lib.hid h5
    go_wp2_with fail
    go_ret
    exact ⟨rfl, h5.out⟩
  · obtain ⟨q, rfl, hq⟩ := h4
    exact ⟨rfl, q, rfl, hq⟩
set_option maxRecDepth 100000 in
set_option maxHeartbeats 4000000 in
/-- sum -/
theorem sum_rd {f : PF} (hp : PartC 42 s last wrong B p gm o f) : PartC 25 s last wrong B p gm o (rowP last addS f) := by
  intro X st w r h hr
  have hmm := @run_makeMap Tryz.prog
  have hlt := h.lt
  have hM0 : (w.alloc (.map #[] 0)).ownsMap Tryz.prog 9 (plainElem (H := Unit) Tryz.prog 50) w.heap.size 0 (.map []) := World.ownsMap_made _ _ _ _
  have hk1 := WideMaps.keyOf_string_mk Tryz.underlying9 (s := ⟨#[43]⟩) (by unfold maxLen; decide)
  have hk2 := WideMaps.keyOf_string_mk Tryz.underlying9 (s := ⟨#[45]⟩) (by unfold maxLen; decide)
  obtain ⟨w2, hr1, hM1, hg1⟩ := hM0.update (val := .int .u8 6) lawStr9 Tryz.underlying79 (by unfold maxLen; omega) hk1 (plainElem_int Tryz.underlying50 (by decide))
  obtain ⟨w3, hr2, hM2, hg2⟩ := hM1.update (val := .int .u8 7) lawStr9 Tryz.underlying79 (by unfold maxLen; omega) hk2 (plainElem_int Tryz.underlying50 (by decide))
  have hgN : w.grownBy w3 none := ⟨hg2.os.trans (hg1.os.trans rfl), hg2.tape.trans (hg1.tape.trans rfl), hg2.output.trans (hg1.output.trans rfl), by
    have a1 := hg1.size
    have a2 := hg2.size
    rw [World.size_alloc] at a1
    omega, fun j hj _ => by
    have a1 := hg1.size
    rw [World.size_alloc] at a1
    exact (hg2.block j (by omega) (fun e => by injection e with e; omega)).trans ((hg1.block j (by rw [World.size_alloc]; omega) (fun e => by injection e with e; omega)).trans (Below.heap_alloc w _ j hj))⟩
  obtain ⟨DS, hDS⟩ : ∃ D : DataW Unit, D = ((DataW.map []).put (.string [43]) (.lit (.int .u8 6))).put (.string [45]) (.lit (.int .u8 7)) := ⟨_, rfl⟩
  have hSg : SignsD DS addS := by rw [hDS]; exact signs_two addS 43 45 6 7 (by decide) (by decide) (by decide) (fun t => rfl)
  obtain ⟨ms, hms⟩ : ∃ m, m = w.heap.size := ⟨_, rfl⟩
  have hM3 : w3.ownsMap Tryz.prog 9 (plainElem (H := Unit) Tryz.prog 50) ms 2 DS := by rw [hms, hDS]; exact hM2
  have hP := h.push (a := itMap Tryz.prog 9 (plainElem (H := Unit) Tryz.prog 50) ms 2 DS) hgN hM3 (fun k hk => by
    injection hk with hk
    omega)
  have hB3 := Lib.hid (show Below B w w3 from ⟨hgN.os, hgN.tape, hgN.output, hgN.size, fun j hj => hgN.block j (by omega) (by simp)⟩)
  have cR := Lib.hid (row_rd (F := 42) (fun _ _ => by rfl) rfl hSg hp hP r hr)
  rw [← hms] at hr1 hr2
  have hms2 : w.heap.size = ms := hms.symm
  replace hms := Lib.hid hms
  replace h := Lib.hid h
  replace hr := Lib.hid hr
  replace hp := Lib.hid hp
  clear hM0 hk1 hk2 hM1 hg1 hM2 hg2 hgN hDS hSg hM3 hP
  go_enter Tryz.func25, Tryz.ntmps25
  go_wp2_with fail
  refine cR.out.mono ?_
  rintro en w4 h4
  replace h4 := PostN.pop (PostN.pre h4 hB3.out)
  rcases r with ⟨v, st'⟩ | ⟨a, c⟩
  · obtain ⟨rfl, h5⟩ := h4
    replace h5 := Lib.hid h5
    go_wp2_with fail
    go_ret
    exact ⟨rfl, h5.out⟩
  · obtain ⟨q, rfl, hq⟩ := h4
    exact ⟨rfl, q, rfl, hq⟩
end
end Go.Proofs.YtnaadajcehfmiaaGreatDoor
