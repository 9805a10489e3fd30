/- lang.Tokens: the iterator's contract. -/
import Derived.Test.YtnaadajcehfmiaaGreatDoorLsD
import Derived.Test.YtnaadajcehfmiaaGreatDoorIter
import Derived.RangeFuncNested
import Derived.RangeFuncBound
import Derived.Shelf.Abstract
import Derived.Shelf.RegionOpen
import Derived.OwnWalkIn
import Derived.TacticsInMore
import Derived.LoopNIn
import Derived.LoopIn
namespace Go.Proofs.YtnaadajcehfmiaaGreatDoor
open Go.RowKit Go.Sort Go.Maps
attribute [local go_sem] Oper.semAt_some

theorem eql_fn_nil {P : Program} (w : World) {t : TypeId} {a b : Array TypeId} {c : Bool} (h : P.underlying t = some (.func a b c)) (f : Fn) (ts lb : Array Value) :
    (binOp .eql t (.func f ts lb) .nilFunc).run P w = .ok (.bool false) w := by
  have hh : ∀ d : Nat, (Op.equalIn (d + 1) t (.func f ts lb) .nilFunc).run P w = .ok false w := fun d => by
    simp [Op.equalIn, run_underlying h]
  simp only [binOp]
  simp [Op.equal, Op.maxDepth, hh 9999]
/-- What is told: the tokens, and at last where none begins. -/
def toldR (T : List Tok) (l : Nat) (b : Bool) : List (Tok × Nat) := T.map (fun t => (t, 0)) ++ (if b then [(⟨l, []⟩, 110)] else [])
def toldT (s : List Nat) (xs : List (Tok × Nat)) : Prop :=
  (16384 < s.length ∧ xs = [(⟨0, []⟩, 4)]) ∨ (s.length ≤ 16384 ∧ ∃ T l b, Lx s 0 T l b ∧ xs = toldR T l b)
def encTk (x : Tok × Nat) : Array Value := #[.agg #[.int .i64 (x.1.at_ : Int), .string (mkS x.1.text)], .int .i64 (x.2 : Int)]
theorem mkS_nil : mkS [] = ⟨#[]⟩ := rfl
/-- lang.Tokens -/
theorem lTokens_any (s : ByteArray) (w : World) :
    Calls Tryz.prog 18 #[.string s] w fun e w' => e = .returned (.func (.func 36) #[] #[.pointer (some ⟨w.heap.size, 0, none⟩)]) ∧ w' = w.alloc (.cells #[.string s] 9) := by
  go_enter Tryz.func18, Tryz.ntmps18
  go_wp2_with fail
  go_ret
  exact ⟨rfl, rfl⟩
theorem toldR_cons (t : Tok) (T : List Tok) (l : Nat) (b : Bool) : toldR (t :: T) l b = (t, 0) :: toldR T l b := rfl
set_option maxRecDepth 100000 in
set_option maxHeartbeats 2000000 in
/-- The tokens of a text, in order. -/
theorem lTokens_iter (gx : Nat) (s : ByteArray) (hs : s.size ≤ 140737488355328) (w0 : World) (hx : Blk w0 gx 9 #[.string s]) (xs : List (Tok × Nat)) (hxs : toldT (sl s) xs) :
    IterB Tryz.prog 36 #[.pointer (some ⟨gx, 0, none⟩)] encTk xs (fun k => k = gx) w0 := by
  intro l J Jx W hW hJ hJx hY h0
  replace hx := Lib.hid (hx.below hW)
  have hlen := sl_len s
  have x0 : W.cell? ⟨gx, 0, none⟩ = some (.string s) := hx.out.cell 0
  replace hJ := Lib.hid hJ
  replace hJx := Lib.hid hJx
  replace hY := Lib.hid hY
  replace h0 := Lib.hid h0
  clear hW
  rcases hxs with ⟨hl, rfl⟩ | ⟨hl, T, la, b, hT, rfl⟩
  case inl =>
    have hlI : (16384 : Int) < (s.size : Int) := by omega
    obtain ⟨fn, tmps, assign, body, hy, hrd⟩ := hY.out 0 [] (⟨0, []⟩, 4) W (h0.out 0) (by simp) (by simp)
    simp only [encTk, mkS_nil, show ((0 : Nat) : Int) = 0 from rfl, show ((4 : Nat) : Int) = 4 from rfl] at hy
    replace hrd := Lib.hid hrd
    clear hlen hl
    refine callsIn_of_wp Tryz.func36 rfl trivial ?_ rfl
    simp only [Tryz.ntmps36, List.size_toArray, List.length_cons, List.length_nil, Nat.reduceAdd, Nat.reduceSub, Array.replicate_succ, Array.replicate_zero, List.push_toArray, List.append_toArray, List.nil_append, List.cons_append]
    gi_wp2_with fail
    refine ⟨rfl, hrd.out.mono ?_⟩
    rintro e w2 (⟨rfl, hJ2, hkp⟩ | ⟨rfl, hJx2⟩)
    · gi_wp2_with fail
      refine bodyPost_ret (results_none rfl _ _ _) rfl ?_
      exact ⟨⟨_, rfl⟩, 0, .inl hJ2⟩
    · gi_wp2_with fail
      refine bodyPost_ret (results_none rfl _ _ _) rfl ?_
      exact ⟨⟨_, rfl⟩, 0, .inr ⟨_, List.prefix_refl _, hJx2⟩⟩
  case inr =>
    have hlI : ¬ (16384 : Int) < (s.size : Int) := by omega
    obtain ⟨xs, hxs⟩ : ∃ xs, xs = toldR T la b := ⟨_, rfl⟩
    have hlx : Hid (Lx (sl s) 0 T la b ∧ s.size ≤ 16384) := Lib.hid ⟨hT, by omega⟩
    replace hlen := Lib.hid hlen
    rw [← hxs] at hY ⊢
    have hpre0 : Hid (xs = [] ++ toldR T la b) := Lib.hid hxs
    clear hl hT hxs
    refine callsIn_of_wp Tryz.func36 rfl trivial ?_ rfl
    simp only [Tryz.ntmps36, List.size_toArray, List.length_cons, List.length_nil, Nat.reduceAdd, Nat.reduceSub, Array.replicate_succ, Array.replicate_zero, List.push_toArray, List.append_toArray, List.nil_append, List.cons_append]
    refine wpIn_wide.2 ?_
    go_wp2_with fail
    go_loopg [3] (T.length + 1) (fun kx s3 wr => ∃ (i : Nat) (pre : List (Tok × Nat)) (T' : List Tok), s3 = .int .i64 (i : Int) ∧ Hid (T'.length + 1 = kx) ∧ Hid (i ≤ s.size ∧ Lx (sl s) i T' la b) ∧ Hid (xs = pre ++ toldR T' la b) ∧ Hid (J 0 pre wr) ∧ Hid (Blk wr gx 9 #[.string s]) ∧ Hid (W.heap.size ≤ wr.heap.size))
    case atStart => exact ⟨0, [], T, rfl, Lib.hid rfl, Lib.hid ⟨Nat.zero_le _, hlx.out.1⟩, hpre0, Lib.hid (h0.out 0), hx, Lib.hid (Nat.le_refl _)⟩
    case round =>
      obtain ⟨i, pre, T', rfl, hkx, hiL, hpre, hJp, hxr, hsz⟩ := hrel
      clear x0 hpre0 hx h0
      have x0 : wr.cell? ⟨gx, 0, none⟩ = some (.string s) := hxr.out.cell 0
      have cS := Lib.hid (scan_val s i wr hiL.out.1 (by have := hlx.out.2; omega))
      have hn := nx_le hiL.out.1
      obtain ⟨f, hf⟩ : ∃ f, f = skipT false (sl s) i := ⟨_, rfl⟩
      obtain ⟨m, hm⟩ : ∃ m, m = nxT s i := ⟨_, rfl⟩
      rw [← hf, ← hm] at cS hn
      have hmt : nxT s i = match tokT (sl s) f with | some m => m | none => badT (sl s) f := by rw [hf]; rfl
      rw [← hm] at hmt
      replace hm := Lib.hid hm
      rcases ht : tokT (sl s) f with _ | k
      case none =>
        rw [ht] at cS
        have hq := hiL.out.2
        have hTb : T' = [] ∧ b = true ∧ la = f := by
          cases hq with
          | done h => exfalso; rw [hf, h] at ht; unfold tokT at ht; rw [sl_len] at ht; rw [sl_none] at ht; cases ht
          | bad h h2 => exact ⟨rfl, rfl, hf.symm⟩
          | tok h h2 h3 => rw [← hf, ht] at h2; cases h2
        obtain ⟨rfl, rfl, rfl⟩ := hTb
        have hpre2 : Hid (pre ++ [((⟨la, []⟩ : Tok), 110)] = xs) := Lib.hid hpre.out.symm
        obtain ⟨fn, tmps, assign, body, hy, hrd⟩ := hY.out 0 pre (⟨la, []⟩, 110) wr hJp.out (by have := hsz.out; omega) (by rw [hpre2.out]; exact List.prefix_refl _)
        simp only [encTk, mkS_nil, show ((110 : Nat) : Int) = 110 from rfl] at hy
        replace hrd := Lib.hid hrd
        replace hf := Lib.hid hf
        clear ht hmt hn hq hkx hiL hpre hY hJ hJx hJp
        simp only [Option.isSome] at cS
        refine (wpIn_wide (n := 0)).1 ?_
        gi_wp2_with fail
        refine ⟨trivial, rfl, (callsIn_wide.2 cS.out).mono ?_⟩
        rintro en wq ⟨rfl, rfl⟩
        clear cS
        gi_wp2_with fail
        refine ⟨rfl, hrd.out.mono ?_⟩
        rintro e w2 (⟨rfl, hJ2, hkp⟩ | ⟨rfl, hJx2⟩)
        · rw [hpre2.out] at hJ2
          gi_wp2_with fail
          refine bodyPost_ret (results_none rfl _ _ _) rfl ?_
          exact ⟨⟨_, rfl⟩, 0, .inl hJ2⟩
        · gi_wp2_with fail
          refine bodyPost_ret (results_none rfl _ _ _) rfl ?_
          exact ⟨⟨_, rfl⟩, 0, .inr ⟨_, (by rw [hpre2.out]; exact List.prefix_refl _), hJx2⟩⟩
      case some =>
        rw [ht] at cS hmt hn
        have hmk : m = k := hmt
        subst hmk
        have hfm : f ≤ m := hn.2.2 rfl
        have hms : m ≤ s.size := hn.2.1
        have hq := hiL.out.2
        simp only [Option.isSome] at cS
        by_cases hfe : f = m
        case pos =>
          have hTb : T' = [] ∧ b = false := by
            cases hq with
            | done h => exact ⟨rfl, rfl⟩
            | bad h h2 => exfalso; rw [← hf, ht] at h2; cases h2
            | tok h h2 h3 => exfalso; rw [← hf, ht] at h2; injection h2 with h2; have := tokT_bounds ht (by rw [hf]; exact h); omega
          obtain ⟨rfl, rfl⟩ := hTb
          have hJe : Hid (J 0 xs wr) := Lib.hid (by have h := hJp.out; have e := hpre.out; rw [show toldR [] la false = [] from rfl, List.append_nil] at e; rw [e]; exact h)
          have hfI : ((f : Int) == (m : Int)) = true := by rw [beq_iff_eq]; omega
          have hfJ : (f : Int) = (m : Int) := by omega
          replace hf := Lib.hid hf
          clear ht hmt hn hq hkx hiL hpre hY hJ hJx hJp hfe
          refine (wpIn_wide (n := 0)).1 ?_
          gi_wp2_with fail
          refine ⟨trivial, rfl, (callsIn_wide.2 cS.out).mono ?_⟩
          rintro en wq ⟨rfl, rfl⟩
          clear cS
          gi_wp2_with fail
          refine ⟨fun _ h => (by cases h), ?_⟩
          gi_wp2_with fail
          refine bodyPost_ret (results_none rfl _ _ _) rfl ?_
          exact ⟨⟨_, rfl⟩, 0, .inl hJe.out⟩
        case neg =>
          have hlt : f < s.size := by omega
          have hTb : ∃ T2, T' = ⟨f, cutL (sl s) f m⟩ :: T2 ∧ Lx (sl s) m T2 la b := by
            cases hq with
            | done h => exfalso; rw [← hf, sl_len] at h; omega
            | bad h h2 => exfalso; rw [← hf, ht] at h2; cases h2
            | tok h h2 h3 =>
              rename_i k2 T2
              rw [← hf, ht] at h2
              injection h2 with h2
              subst h2
              rw [← hf]
              exact ⟨T2, rfl, h3⟩
          obtain ⟨T2, rfl, hL2⟩ := hTb
          have hpre2 : Hid (xs = (pre ++ [((⟨f, cutL (sl s) f m⟩ : Tok), 0)]) ++ toldR T2 la b) := Lib.hid (by rw [hpre.out, toldR_cons, List.append_assoc]; rfl)
          have hpre3 : pre ++ [((⟨f, cutL (sl s) f m⟩ : Tok), 0)] <+: xs := by rw [hpre2.out]; exact List.prefix_append _ _
          obtain ⟨fn, tmps, assign, body, hy, hrd⟩ := hY.out 0 pre (⟨f, cutL (sl s) f m⟩, 0) wr hJp.out (by have := hsz.out; omega) hpre3
          have hex : mkS (cutL (sl s) f m) = s.extract f m := (extract_cut s f m).symm
          simp only [encTk, show ((0 : Nat) : Int) = 0 from rfl] at hy
          rw [hex] at hy
          have hfI : ((f : Int) == (m : Int)) = false := by rw [beq_eq_false_iff_ne]; omega
          have hfJ : ¬ (f : Int) = (m : Int) := by omega
          have hfmI : (f : Int) ≤ (m : Int) := by omega
          have hmsI : (m : Int) ≤ (s.size : Int) := by omega
          have hL3 : Hid (m ≤ s.size ∧ Lx (sl s) m T2 la b) := Lib.hid ⟨hms, hL2⟩
          have hk2 : Hid (T2.length + 1 + 1 = gk) := Lib.hid hkx.out
          replace hrd := Lib.hid hrd
          replace hpre3 := Lib.hid hpre3
          replace hf := Lib.hid hf
          replace hex := Lib.hid hex
          clear ht hmt hn hq hkx hiL hpre hL2 hfe hJp
          refine (wpIn_wide (n := 0)).1 ?_
          gi_wp2_with fail
          refine ⟨trivial, rfl, (callsIn_wide.2 cS.out).mono ?_⟩
          rintro en wq ⟨rfl, rfl⟩
          clear cS
          gi_wp2_with fail
          refine ⟨rfl, hrd.out.mono ?_⟩
          rintro e w2 (⟨rfl, hJ2, hkp⟩ | ⟨rfl, hJx2⟩)
          · have hx2 : Hid (Blk w2 gx 9 #[.string s]) := Lib.hid ((hkp.block gx (.inl rfl)).trans hxr.out)
            have hs2 : Hid (W.heap.size ≤ w2.heap.size) := Lib.hid (Nat.le_trans hsz.out hkp.size)
            replace hJ2 := Lib.hid hJ2
            clear hkp hy hrd hxr hsz
            gi_wp2_with fail
            go_roundg (gk - 1)
            case rel => exact ⟨m, _, T2, rfl, Lib.hid (by have := hk2.out; omega), hL3, hpre2, hJ2, hx2, hs2⟩
            case measure =>
              have := hk2.out
              omega
          · replace hJx2 := Lib.hid hJx2
            clear hy hrd
            gi_wp2_with fail
            refine bodyPost_ret (results_none rfl _ _ _) rfl ?_
            exact ⟨⟨_, rfl⟩, 0, .inr ⟨_, hpre3.out, hJx2.out⟩⟩
end Go.Proofs.YtnaadajcehfmiaaGreatDoor
