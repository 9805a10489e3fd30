/- filigreeref11: tokens. -/
import Derived.Test.YtnaadajcehfmiaaGreatDoorLvB
import Derived.Test.YtnaadajcehfmiaaGreatDoorLrJ
namespace Go.Proofs.YtnaadajcehfmiaaGreatDoor
open Go.RowKit Go.Sort Go.Maps

def encV (t : Tok) : List Value := [.int .i64 (t.at_ : Int), .string (mkS t.text)]
theorem info_tok : (Tryz.prog.info? 67).map (fun i => (i.zero, i.size, i.bytes)) = some (some (.agg #[.int .i64 0, .string ⟨#[]⟩]), 2, 24) := by kernel_rfl
set_option maxRecDepth 100000 in
set_option maxHeartbeats 4000000 in
theorem rvTokens (s : ByteArray) (w : World) (hs : s.size ≤ 16384) {T : List Tok} {l : Nat} {b : Bool} (hx : Lx (sl s) 0 T l b) : Calls Tryz.prog 12 #[.string s] w (fun e w' => ∃ v, e = .returned (.tuple #[v, .int .i64 ((if b then l else 0 : Nat) : Int), .int .i64 ((if b then 110 else 0 : Nat) : Int)]) ∧ w'.ownsRow w.heap.size 67 2 v T.length (T.flatMap encV) ∧ Below w.heap.size w w') := by
  obtain ⟨j1, ji, jz0, jz1, jz2⟩ := info_parts info_tok
  have hlen := Lib.hid (sl_len s)
  have cB := Lib.hid (fun (i : Nat) (W : World) (hi : i ≤ s.size) => rvBlank s i W hi (by omega))
  have cE := Lib.hid (fun (i : Nat) (W : World) (hi : i < s.size) => rvEnd s i W hi (by omega))
  obtain ⟨n0, hn0⟩ : ∃ n, n = T.length := ⟨_, rfl⟩
  have hn9 : n0 ≤ 16384 := by
    have := hx.len
    rw [sl_len] at this
    omega
  obtain ⟨B, hB⟩ : ∃ n, n = w.heap.size := ⟨_, rfl⟩
  rw [← hB]
  have hBB : Hid (Below B w w) := Lib.hid (Below.refl B w)
  have hBs : B ≤ w.heap.size := by rw [hB]; exact Nat.le_refl _
  have hr0 : Hid (w.ownsRow B 67 2 (.slice none 0 0) 0 []) := Lib.hid (World.ownsRow_nil _ _ _ _)
  replace hB := Lib.hid hB
  replace hn0 := Lib.hid hn0
  replace hx := Lib.hid hx
  go_enter Tryz.func12, Tryz.ntmps12
  go_wp2_with fail
  have cB0 := cB.out 0 w (Nat.zero_le _)
  refine cB0.mono ?_
  clear cB0
  rintro en w1 ⟨rfl, rfl⟩
  go_wp2_with fail
  go_loopg [5, 6] n0 (fun kx v4 s5 wr => ∃ (nx : Nat) (T1 T2 : List Tok) (s4 : Value), s4 = v4 ∧ s5 = .int .i64 (skipT false (sl s) nx : Int) ∧ nx ≤ s.size ∧ Hid (wr.ownsRow B 67 2 s4 T1.length (T1.flatMap encV)) ∧ Hid (Below B w1 wr) ∧ Hid (Lx (sl s) nx T2 l b) ∧ Hid (T = T1 ++ T2) ∧ T2.length ≤ kx ∧ T1.length + T2.length = n0)
  case atStart => exact ⟨0, [], T, _, rfl, rfl, Nat.zero_le _, hr0, hBB, hx, Lib.hid rfl, by rw [hn0.out]; exact Nat.le_refl _, by rw [hn0.out]; simp⟩
  case round =>
    obtain ⟨nx, T1, T2, s4, rfl, rfl, hnx, hrow, hBw, hlx, hTT, hk, hsum⟩ := hrel
    have hf1 : skipT false (sl s) nx ≤ s.size := by
      rw [← hlen.out]
      exact skipT_le (by rw [hlen.out]; exact hnx)
    have hlx2 := hlx.out
    rw [← hlen.out] at hf1
    rcases hlx2 with ⟨h⟩ | ⟨h, ht⟩ | ⟨h, ht, hn⟩
    case done =>
      obtain ⟨f, hf⟩ : ∃ f, f = skipT false (sl s) nx := ⟨_, rfl⟩
      rw [← hf] at h ⊢
      have hcI : ¬ (f : Int) < (s.size : Int) := by have := hlen.out; omega
      have hrow2 : Hid (wr.ownsRow B 67 2 s4 T.length (T.flatMap encV)) := Lib.hid (by
        rw [hTT.out, List.append_nil]
        exact hrow.out)
      replace hf := Lib.hid hf
      clear h hf1 hk hsum hrow
      go_wp2_with fail
      go_ret3
      exact ⟨_, rfl, hrow2.out, hBw.out⟩
    case bad =>
      obtain ⟨f, hf⟩ : ∃ f, f = skipT false (sl s) nx := ⟨_, rfl⟩
      rw [← hf] at h ht ⊢
      have hfs : f < s.size := by have := hlen.out; omega
      have hcI : (f : Int) < (s.size : Int) := by omega
      have cE1 := cE.out f wr hfs
      rw [ht, show optI none = -1 from rfl] at cE1
      have hrow2 : Hid (wr.ownsRow B 67 2 s4 T.length (T.flatMap encV)) := Lib.hid (by
        rw [hTT.out, List.append_nil]
        exact hrow.out)
      replace hf := Lib.hid hf
      replace cE1 := Lib.hid cE1
      clear h hf1 hk hsum hrow ht
      go_wp2_with fail
      refine cE1.out.mono ?_
      rintro en w2 ⟨rfl, rfl⟩
      go_wp2_with fail
      go_ret3
      exact ⟨_, by rw [← hf.out]; rfl, hrow2.out, hBw.out⟩
    case tok k T3 =>
      obtain ⟨f, hf⟩ : ∃ f, f = skipT false (sl s) nx := ⟨_, rfl⟩
      rw [← hf] at h ht hTT ⊢
      have hfs : f < s.size := by have := hlen.out; omega
      have hcI : (f : Int) < (s.size : Int) := by omega
      have cE1 := cE.out f wr hfs
      rw [ht, show optI (some k) = (k : Int) from rfl] at cE1
      obtain ⟨hfk, hks⟩ := tokT_bounds ht h
      have hks2 : k ≤ s.size := by have := hlen.out; omega
      have hfmI : (f : Int) ≤ (k : Int) := by omega
      have hmI : (k : Int) ≤ (s.size : Int) := by omega
      have h0I : ¬ (k : Int) < 0 := by omega
      have hex := extract_cut s f k
      obtain ⟨t, ht3⟩ : ∃ t, t = Tok.mk f (cutL (sl s) f k) := ⟨_, rfl⟩
      have ht4 : Hid (t.at_ = f ∧ s.extract f k = mkS t.text) := Lib.hid (by rw [ht3]; exact ⟨rfl, hex⟩)
      rw [← ht3] at hTT
      obtain ⟨n, hn2⟩ : ∃ n, n = T1.length := ⟨_, rfl⟩
      have hn8 : n ≤ 16384 := by omega
      rw [← hn2] at hrow
      have hsum2 : Hid ((T1 ++ [t]).length + T3.length = n0) := Lib.hid (by rw [List.length_append, List.length_singleton]; rw [List.length_cons] at hsum; omega)
      have hk2 : T3.length + 1 ≤ gk := by rw [List.length_cons] at hk; exact hk
      have hTT2 : Hid (T = (T1 ++ [t]) ++ T3) := Lib.hid (by rw [hTT.out]; simp)
      have cB1 := Lib.hid (cB.out k)
      obtain ⟨A3, c3, rfl, -, -⟩ := own_form hrow.out
      have hBw2 : B ≤ wr.heap.size := Nat.le_trans hBs hBw.out.size
      have hfI := Lib.hid ht4.out.1
      obtain ⟨ex, hexx⟩ : ∃ e, e = s.extract f k := ⟨_, rfl⟩
      replace hf := Lib.hid hf
      replace hn2 := Lib.hid hn2
      replace cE1 := Lib.hid cE1
      replace ht3 := Lib.hid ht3
      replace hn := Lib.hid hn
      clear h hf1 hk hsum ht hfk hks hex hTT hlx
      go_wp2_with fail
      refine cE1.out.mono ?_
      rintro en w2 ⟨rfl, rfl⟩
      go_wp2_with (at_builtin; refine wpList_append_own_at _ rfl _ _ 43 rfl B 67 j1 (.agg #[.int .i64 0, .string ⟨#[]⟩]) 2 24 Tryz.underlying43 ji jz0 jz1 jz2 rfl (by decide) _ _ _ rfl (hrow.out.alloc _) ⟨w2.heap.size, 0, none⟩ 1 1 [.int .i64 (f : Int), .string (s.extract f k)] rfl rfl (news_blk (Blk.new w2 67 #[.int .i64 (f : Int), .string (s.extract f k)])) (fun u hu => by simp only [List.mem_cons, List.not_mem_nil, or_false] at hu; rcases hu with rfl | rfl <;> rfl) (by unfold maxLen; omega) (by omega) (by simp; omega) ?_)
      intro v8 w8 hown8 hgrow8 _ hloc8
      have hrow8 : Hid (w8.ownsRow B 67 2 v8 (T1 ++ [t]).length ((T1 ++ [t]).flatMap encV)) := Lib.hid (by
        have e : (T1 ++ [t]).length = n + 1 := by rw [List.length_append, List.length_singleton, hn2.out]
        have e2 : (T1 ++ [t]).flatMap encV = T1.flatMap encV ++ [.int .i64 (f : Int), .string (s.extract f k)] := by
          rw [List.flatMap_append, ht4.out.2, ← ht4.out.1]; simp [encV]
        rw [e, e2]
        exact hown8)
      have hB8 : Hid (Below B w1 w8) := Lib.hid ((hBw.out.alloc hBw2 _).grown hgrow8 (by simp; omega) (fun q hq => (World.ownsRow.lt hrow.out q hq).1))
      have cB2 := Lib.hid (cB1.out w8 hks2)
      clear hown8 hgrow8 hloc8 hrow hBw cE1
      go_wp2_with fail
      refine cB2.out.mono ?_
      rintro en w9 ⟨rfl, rfl⟩
      clear cB2
      go_wp2_with fail
      go_roundg T3.length
      case measure => omega
      case rel => exact ⟨k, T1 ++ [t], T3, v8, rfl, rfl, hks2, hrow8, hB8, hn, hTT2, Nat.le_refl _, hsum2.out⟩
end Go.Proofs.YtnaadajcehfmiaaGreatDoor
