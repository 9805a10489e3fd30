/- filigreelaw23.read. -/
import Derived.Test.YtoaggmegmgdgbaaGreatRRise
import Derived.Test.YtoaggmegmgdgbaaGreatLiftF
namespace Go.Proofs.YtoaggmegmgdgbaaGreat
open Go.RowKit Go.Sort

/-- Are all of them angles? -/
def okQ (Ls : List RawQ) : Bool := Ls.all fun r => okA r.1 r.2.1 r.2.2
/-- The angles. -/
def angQ (Ls : List RawQ) : List PT := Ls.map fun r => (be (sl r.2.1), be (sl r.2.2))
theorem okQ_snoc (Ls : List RawQ) (r : RawQ) : okQ (Ls ++ [r]) = (okQ Ls && okA r.1 r.2.1 r.2.2) := by simp [okQ]
theorem angQ_snoc (Ls : List RawQ) (n1 : Bool) (a1 d1 : ByteArray) : angQ (Ls ++ [(n1, a1, d1)]) = angQ Ls ++ [(be (sl a1), be (sl d1))] := by simp [angQ]
theorem angQ_len (Ls : List RawQ) : (angQ Ls).length = Ls.length := by simp [angQ]
theorem okQ_bad {Ls : List RawQ} {i : Nat} (hi : i < Ls.length) (h : okA Ls[i]!.1 Ls[i]!.2.1 Ls[i]!.2.2 = false) : okQ Ls = false := by
  rw [Bool.eq_false_iff]
  intro e
  have := List.all_eq_true.1 e Ls[i]! (by rw [getElem!_pos Ls i hi]; exact List.getElem_mem hi)
  rw [h] at this
  cases this

set_option maxRecDepth 100000 in
set_option maxHeartbeats 4000000 in
/-- filigreelaw23.read -/
theorem lread_any (v : Value) (Ls : List RawQ) (w : World) (hv : RdK 3 encQ w v Ls) (hz : ∀ r, r ∈ Ls → szQ r) (hlen : Ls.length ≤ 1048576) :
    Calls Tryz.prog 13 #[v] w fun e w' => (okQ Ls = true ∧ ∃ v', e = .returned (.tuple #[v', .bool true]) ∧ QRow w' w.heap.size v' (angQ Ls) ∧ Below w.heap.size w w') ∨ (okQ Ls = false ∧ e = .returned (.tuple #[.slice none 0 0, .bool false]) ∧ Below w.heap.size w w') := by
  obtain ⟨i0, hi, hz0, hz1, hz2⟩ := info_parts info_ang2
  obtain ⟨A, c, rfl, hA⟩ := hv
  have cOf : Hid (∀ i (n1 : Bool) (a1 d1 : ByteArray) W, i < Ls.length → Ls[i]! = (n1, a1, d1) → Calls Tryz.prog 24 #[.agg #[.bool n1, .string a1, .string d1]] W (RetVal (smallV n1 a1 d1) W)) := Lib.hid (fun i n1 a1 d1 W hi e => by
    have hs := hz Ls[i]! (by rw [getElem!_pos Ls i hi]; exact List.getElem_mem hi)
    rw [e] at hs
    exact rof_any n1 a1 d1 W hs.1 hs.2)
  have hC0 : Hid (∀ W, Below w.heap.size w W → 0 < Ls.length → ∃ g o, A = some ⟨g, o, none⟩ ∧ ∀ i, i < Ls.length → ∀ (j : Nat) (u : Value), (encQ Ls[i]!)[j]? = some u → W.cell? ⟨g, o + i * 3 + j, none⟩ = some u) := Lib.hid (fun W hb h0 => by
    obtain ⟨g, o, e, h⟩ := hA h0
    refine ⟨g, o, e, fun i hi j u hu => ?_⟩
    have h1 := h i hi j u hu
    rw [hb.cell (block_lt_of_cell h1)]
    exact h1)
  obtain ⟨n, hn2⟩ : ∃ n, n = Ls.length := ⟨_, rfl⟩
  rw [← hn2] at cOf hC0 hlen ⊢
  replace hn2 := Lib.hid hn2
  have hB := Lib.hid (Below.refl w.heap.size w)
  clear hA hz
  go_enter Tryz.func13, Tryz.ntmps13
  go_wp2_with fail
  go_loopg [5, 4] n (fun kx s5 s4 wr => ∃ (i : Nat) (u : Value), s5 = .int .i64 (i : Int) ∧ u = s4 ∧ i ≤ n ∧ n - i ≤ kx ∧ Hid (okQ (Ls.take i) = true) ∧ Hid (QRow wr w.heap.size u (angQ (Ls.take i))) ∧ Hid (Below w.heap.size w wr))
  case atStart => exact ⟨0, _, rfl, rfl, Nat.zero_le _, Nat.le_refl _, Lib.hid rfl, Lib.hid (World.ownsRow_nil _ _ _ _), hB⟩
  case round =>
    clear hB
    obtain ⟨i, u, rfl, rfl, hin, hg, hok, hR, hB⟩ := hrel
    by_cases hlt : i < n
    case neg =>
      obtain rfl : i = n := by omega
      have hte : Ls.take i = Ls := List.take_of_length_le (by rw [hn2.out]; exact Nat.le_refl _)
      rw [hte] at hok hR
      clear cOf hC0 hte
      go_wp2_with fail
      go_ret2
      exact .inl ⟨hok.out, _, rfl, hR.out, hB.out⟩
    case pos =>
      have hil : i < Ls.length := by rw [← hn2.out]; exact hlt
      obtain ⟨g, o, rfl, hC⟩ := hC0.out wr hB.out (by omega)
      replace hC := hC i hlt
      obtain ⟨⟨n1, a1, d1⟩, hr⟩ : ∃ r, r = Ls[i]! := ⟨_, rfl⟩
      rw [← hr] at hC
      have hsn : Ls.take (i + 1) = Ls.take i ++ [(n1, a1, d1)] := by
        rw [hr, List.take_add_one, List.getElem?_eq_getElem hil, getElem!_pos Ls i hil]; rfl
      have cO := Lib.hid (fun W => cOf.out i n1 a1 d1 W hlt hr.symm)
      have m0 : wr.cell? ⟨g, o + i * 3, none⟩ = some (.bool n1) := hC 0 _ rfl
      have m1 : wr.cell? ⟨g, o + i * 3 + 1, none⟩ = some (.string a1) := hC 1 _ rfl
      have m2 : wr.cell? ⟨g, o + i * 3 + 2, none⟩ = some (.string d1) := hC 2 _ rfl
      have hiz : (i : Int) < (n : Int) := by omega
      obtain ⟨ok, hoke⟩ : ∃ b, b = okA n1 a1 d1 := ⟨_, rfl⟩
      clear hC
      cases ok
      case false =>
        rw [smallV_no hoke.symm] at cO
        have hbad : Hid (okQ Ls = false) := Lib.hid (okQ_bad hil (by rw [← hr]; exact hoke.symm))
        clear hr hsn hoke hil
        go_wp2_with fail
        refine (cO.out _).mono ?_
        rintro en w4 ⟨rfl, hb⟩
        replace hB := Lib.hid (hB.out.trans (hb.mono hB.out.size))
        clear hb cO m0 m1 m2
        go_wp2_with fail
        go_ret2
        exact .inr ⟨hbad.out, rfl, hB.out.alloc hB.out.size _⟩
      case true =>
        rw [smallV_yes hoke.symm] at cO
        obtain ⟨p, hp⟩ : ∃ p : PT, p = (be (sl a1), be (sl d1)) := ⟨_, rfl⟩
        have hp1 : be (sl a1) = p.1 := by rw [hp]
        have hp2 : be (sl d1) = p.2 := by rw [hp]
        rw [hp1, hp2] at cO
        have hok2 : Hid (okQ (Ls.take (i + 1)) = true) := Lib.hid (by rw [hsn, okQ_snoc, hok.out, ← hoke]; rfl)
        have hang2 : Hid (angQ (Ls.take (i + 1)) = angQ (Ls.take i) ++ [p]) := Lib.hid (by rw [hsn, hp, angQ_snoc])
        have hRl : (angQ (Ls.take i)).length = i := by rw [angQ_len, List.length_take]; omega
        replace hp1 := Lib.hid hp1
        replace hp2 := Lib.hid hp2
        replace hp := Lib.hid hp
        replace hoke := Lib.hid hoke
        replace hr := Lib.hid hr
        obtain ⟨A4, c4, rfl, -⟩ := QRow.form hR.out
        rw [hRl] at hR ⊢
        clear hsn hil
        go_wp2_with fail
        refine (cO.out _).mono ?_
        rintro en w4 ⟨rfl, hb⟩
        replace hB := Lib.hid (hB.out.trans (hb.mono hB.out.size))
        replace hR := Lib.hid (QRow.below hR.out hb)
        clear hb cO m0 m1 m2
        go_upto_region 8 with fail
        have kp := Lib.hid (Blk.new w4 42 #[.int .u64 (p.1 : Int), .int .u64 (p.2 : Int)])
        replace hB := Lib.hid (hB.out.alloc hB.out.size (.cells #[.int .u64 (p.1 : Int), .int .u64 (p.2 : Int)] 42))
        replace hR := Lib.hid (QRow.below hR.out ((Below.refl w4.heap.size w4).alloc (Nat.le_refl _) (.cells #[.int .u64 (p.1 : Int), .int .u64 (p.2 : Int)] 42)))
        generalize hW : w4.alloc (.cells #[.int .u64 (p.1 : Int), .int .u64 (p.2 : Int)] 42) = w5 at hB hR kp ⊢
        generalize hgg : w4.heap.size = gp at kp ⊢
        clear hW hgg
        have p0 : w5.cell? ⟨gp, 0, none⟩ = some (.int .u64 (p.1 : Int)) := kp.out.cell 0
        have p1 : w5.cell? ⟨gp, 1, none⟩ = some (.int .u64 (p.2 : Int)) := kp.out.cell 1
        go_wp2_with (at_builtin; refine wpList_append_own _ rfl _ _ 31 rfl w.heap.size 42 i0 (.agg #[.int .u64 0, .int .u64 0]) 2 16 Tryz.underlying31 hi hz0 hz1 hz2 rfl (by decide) (.slice A4 i c4) i ((angQ (Ls.take i)).flatMap enc2) rfl ?g0 ⟨w5.heap.size, 0, none⟩ 1 1 (enc2 p) ?g1 ?g2 ?g3 ?g4 ?g5 ?g6 ?g7 ?gK)
        case g0 => exact World.ownsRow.alloc (by have h := hR.out; unfold QRow at h; rw [hRl] at h; exact h) _
        case g1 => rfl
        case g2 => rfl
        case g3 => exact q_news (Blk.new w5 42 (enc2 p).toArray)
        case g4 => exact q_one p
        case g5 => unfold maxLen; omega
        case g6 => omega
        case g7 => have := hB.out.size; simp; omega
        case gK =>
          intro v6 w6 hown6 hgrow6 _
          have hv6 := fun k (hk : (Value.slice A4 i c4).ownBlock = some k) => (World.ownsRow.lt hR.out k hk).1
          have hB6 := Lib.hid ((hB.out.alloc hB.out.size _).grown hgrow6 (by have := hB.out.size; simp; omega) hv6)
          have hR6 : Hid (QRow w6 w.heap.size v6 (angQ (Ls.take (i + 1)))) := Lib.hid (by
            unfold QRow
            rw [hang2.out, List.length_append, hRl, List.flatMap_append, List.flatMap_singleton]
            exact hown6)
          clear hown6 hgrow6 hv6 p0 p1 kp
          go_wp2_with fail
          go_roundg (n - (i + 1))
          case measure => omega
          case rel => exact ⟨i + 1, _, by simp, rfl, by omega, Nat.le_refl _, hok2, hR6, hB6⟩
end Go.Proofs.YtoaggmegmgdgbaaGreat
