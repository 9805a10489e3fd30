/- filigreelaw21.AngleOrbits: the walk. -/
import Derived.Test.YtciafmnideihjaaOrbA
import Derived.Test.YtciafmnideihjaaOrbB
namespace Go.Proofs.Ytciafmnideihjaa
open Go.RowKit Go.Sort

/-- A function is not nil. -/
theorem eql_func_nil {P : Program} (w : World) {t : TypeId} {a b : Array TypeId} {c : Bool} (h : P.underlying t = some (.func a b c)) (f : Fn) (ts lb : Array Value) :
    (binOp .eql t (.func f ts lb) .nilFunc).run P w = .ok (.bool false) w := by
  have hh : ∀ d : Nat, (Op.equalIn (d + 1) t (.func f ts lb) .nilFunc).run P w = .ok false w := fun d => by
    simp [Op.equalIn, run_underlying h]
  simp only [binOp]
  simp [Op.equal, Op.maxDepth, hh 9999]

/-- What Orbit hands back. -/
def RetIt (ng : Bool) (nu de : ByteArray) (d : Int) (w : World) (e : Ending) (w' : World) : Prop :=
  ∃ gA gD, e = .returned (.func (.func 55) #[] #[.pointer (some ⟨gA, 0, none⟩), .pointer (some ⟨gD, 0, none⟩)]) ∧ Blk w' gA 24 #[.bool ng, .string nu, .string de] ∧ Blk w' gD 3 #[.int .i64 d] ∧ Below w.heap.size w w'

set_option maxRecDepth 100000 in
/-- angle.Orbit -/
theorem orbit_any (ng : Bool) (nu de : ByteArray) (d : Int) (w : World) :
    Calls Try.prog 20 #[.agg #[.bool ng, .string nu, .string de], .int .i64 d] w (RetIt ng nu de d w) := by
  have k1 := (Blk.new w 24 #[.bool ng, .string nu, .string de]).alloc (.cells #[.int .i64 d] 3)
  have k2 := Blk.new (w.alloc (.cells #[.bool ng, .string nu, .string de] 24)) 3 #[.int .i64 d]
  have hb : Below w.heap.size w ((w.alloc (.cells #[.bool ng, .string nu, .string de] 24)).alloc (.cells #[.int .i64 d] 3)) := ((Below.refl _ w).alloc (Nat.le_refl _) _).alloc (by simp) _
  replace k1 := Lib.hid k1
  replace k2 := Lib.hid k2
  replace hb := Lib.hid hb
  go_enter Try.func20, Try.ntmps20
  go_wp2_with fail
  go_ret
  exact ⟨_, _, rfl, k1.out, by simpa using k2.out, hb.out⟩

set_option maxRecDepth 100000 in
/-- filigreelaw21.little -/
theorem little_any (x y : Nat) (w : World) :
    Calls Try.prog 21 #[.agg #[.int .u64 (x : Int), .int .u64 (y : Int)]] w (RetVal (.bool (decide (y ≤ 3000))) w) := by
  have hb : Below w.heap.size w (w.alloc (.cells #[.int .u64 (x : Int), .int .u64 (y : Int)] 34)) := (Below.refl _ w).alloc (Nat.le_refl _) _
  by_cases h : y ≤ 3000
  · have hI : (y : Int) ≤ 3000 := by omega
    have hv : Hid (decide (y ≤ 3000) = true) := Lib.hid (decide_eq_true h)
    go_enter Try.func21, Try.ntmps21
    go_wp2_with fail
    go_ret
    exact ⟨by first | rfl | (rw [hv.out]; rfl), hb⟩
  · have hI : ¬ (y : Int) ≤ 3000 := by omega
    have hv : Hid (decide (y ≤ 3000) = false) := Lib.hid (decide_eq_false h)
    go_enter Try.func21, Try.ntmps21
    go_wp2_with fail
    go_ret
    exact ⟨by first | rfl | (rw [hv.out]; rfl), hb⟩

theorem gb_out {a A B : World} {r : Option Nat} {hi : Nat} (h : a.grownBy A r) (ho : OutB a.heap.size hi A B) : a.grownBy B r :=
  ⟨ho.os.trans h.os, ho.tape.trans h.tape, ho.output.trans h.output, Nat.le_trans h.size ho.size, fun k hk hne => (ho.block k (Nat.lt_of_lt_of_le hk h.size) (by omega)).trans (h.block k hk hne)⟩
theorem blk_out {A B : World} {g lo hi : Nat} {T : TypeId} {cs : Array Value} (h : Blk A g T cs) (hg : g < lo) (ho : OutB lo hi A B) : Blk B g T cs := (ho.block g h.lt (by omega)).trans h

/-- A function's way out, past one mark, past two. -/
theorem leaves_one {P : Program} {fn : Func} {tmps : Array Value} {R : Ending → World → Prop} {W : World} {v : Value} {D : Nat} (hK : W.heap[D]? = some (.deferred (some []))) (hr : (results fn tmps).run P (W.putObj D (.deferred none)) = .ok v (W.putObj D (.deferred none)))
    (hR : R (.returned v) (W.putObj D (.deferred none))) : LeavesInM Fence.wide 0 P fn tmps R [{ target := .collected D, args := #[] }] .returning W :=
  ⟨by simp, .inl ⟨_, _, rfl, run_takeDeferred hK, ⟨_, hr, hR⟩⟩⟩
theorem leaves_two {P : Program} {fn : Func} {tmps : Array Value} {R : Ending → World → Prop} {W : World} {v : Value} {D E : Nat} (hK : W.heap[D]? = some (.deferred (some []))) (hE : W.heap[E]? = some (.deferred (some []))) (hne : E ≠ D)
    (hr : (results fn tmps).run P ((W.putObj D (.deferred none)).putObj E (.deferred none)) = .ok v ((W.putObj D (.deferred none)).putObj E (.deferred none)))
    (hR : R (.returned v) ((W.putObj D (.deferred none)).putObj E (.deferred none))) : LeavesInM Fence.wide 0 P fn tmps R [{ target := .collected D, args := #[] }, { target := .collected E, args := #[] }] .returning W :=
  ⟨by simp, .inl ⟨_, _, rfl, run_takeDeferred hK, leaves_one ((World.putObj_heap_other hne).trans hE) hr hR⟩⟩
theorem blk_put {W : World} {g r : Nat} {T : TypeId} {cs : Array Value} (h : Blk W g T cs) (hne : g ≠ r) (o : Obj) : Blk (W.putObj r o) g T cs := (World.putObj_heap_other hne).trans h
theorem below_put {B r : Nat} {a W : World} (h : Below B a W) (hr : B ≤ r) (o : Obj) : Below B a (W.putObj r o) :=
  h.trans ⟨rfl, rfl, rfl, by simp, fun k hk => World.putObj_heap_other (by omega)⟩
theorem put_set {W : World} {D : Nat} {o : Obj} {p : Addr} (h : W.heap[D]? = some o) (hne : D ≠ p.block) (v : Value) : (W.setCell p v).heap[D]? = some o := (Below.heap_setCell W p v D hne).trans h
theorem gb_new {a b c : World} {g : Nat} (h : a.grownBy b none) (k : b.grownBy c (some g)) (hg : a.heap.size ≤ g) : a.grownBy c none :=
  ⟨k.os.trans h.os, k.tape.trans h.tape, k.output.trans h.output, Nat.le_trans h.size k.size, fun i hi hne => (k.block i (Nat.lt_of_lt_of_le hi h.size) (fun e => by injection e; omega)).trans (h.block i hi hne)⟩
theorem own_put {W : World} {base : Nat} {T : TypeId} {size : Nat} {v : Value} {n : Nat} {xs : List Value} (h : W.ownsRow base T size v n xs) {r : Nat} (hne : v.ownBlock ≠ some r) (o : Obj) : (W.putObj r o).ownsRow base T size v n xs :=
  h.kept (grownBy_putObj' W r o) (.inr hne)
theorem no_prefix {α : Type} {pre : List α} {x : α} (h : pre ++ [x] <+: []) : False := by
  have := List.prefix_nil.1 h
  simp at this

attribute [local go_sem] Oper.semAt_some
set_option maxRecDepth 100000 in
set_option maxHeartbeats 4000000 in
theorem angleOrbits_any (ng : Bool) (nu de : ByteArray) (d few : Int) (w : World) (z1 : nu.size ≤ 9223372036854775807) (z2 : de.size ≤ 9223372036854775807) :
    Calls Try.prog 5 #[.agg #[.bool ng, .string nu, .string de], .int .i64 d, .int .i64 few] w (RetVal (.bool true) w) := by
  have ka := (Blk.new w 24 #[.bool ng, .string nu, .string de]).alloc (.cells #[.bool false] 4)
  have kr := Blk.new (w.alloc (.cells #[.bool ng, .string nu, .string de] 24)) 4 #[.bool false]
  have hBW : Below w.heap.size w ((w.alloc (.cells #[.bool ng, .string nu, .string de] 24)).alloc (.cells #[.bool false] 4)) := ((Below.refl _ w).alloc (Nat.le_refl _) _).alloc (by simp) _
  rw [World.size_alloc] at kr
  obtain ⟨x, y, hsv, hq⟩ := smallV_form ng nu de
  obtain ⟨p, n, e, hkv⟩ : ∃ p n e : Int, kindV ng nu de d = .tuple #[.int .i64 p, .int .i64 n, .int .i64 e] := by
    obtain ⟨p, n, e, h, -⟩ := kindV_form ng nu de d
    exact ⟨p, n, e, h⟩
  have kk : ∀ W, Calls Try.prog 16 #[.agg #[.bool ng, .string nu, .string de], .int .i64 d] W (RetVal (.tuple #[.int .i64 p, .int .i64 n, .int .i64 e]) W) := fun W => by
    rw [← hkv]; exact kindW_any ng nu de d W z1 z2
  replace ka := Lib.hid ka
  replace kr := Lib.hid kr
  replace hBW := Lib.hid hBW
  replace hsv := Lib.hid hsv
  replace hq := Lib.hid hq
  replace hkv := Lib.hid hkv
  replace kk := Lib.hid kk
  have hnil := fun (W : World) (f : Fn) (ts lb : Array Value) => eql_func_nil (P := Try.prog) W Try.underlying39 f ts lb
  refine callsIn_wide.1 (callsIn_of_wp_marks (n := 0) Try.func5 rfl trivial ?_ rfl)
  simp only [Try.ntmps5, List.size_toArray, List.length_cons, List.length_nil, Nat.reduceAdd, Nat.reduceSub, Array.replicate_succ, Array.replicate_zero, List.push_toArray, List.append_toArray, List.nil_append, List.cons_append]
  refine wpIn_wide.2 ?_
  go_wp2_with fail
  refine (awake_any _).mono ?_
  rintro e1 v1 ⟨rfl, hb⟩
  replace ka := Lib.hid (Blk.below ka.out hb)
  replace kr := Lib.hid (Blk.below kr.out hb)
  replace hBW := Lib.hid (hBW.out.trans (hb.mono hBW.out.size))
  clear hb
  have a0 : v1.cell? ⟨w.heap.size, 0, none⟩ = some (.bool ng) := ka.out.cell 0
  have a1 : v1.cell? ⟨w.heap.size, 1, none⟩ = some (.string nu) := ka.out.cell 1
  have a2 : v1.cell? ⟨w.heap.size, 2, none⟩ = some (.string de) := ka.out.cell 2
  go_wp2_with fail
  refine (kk.out _).mono ?_
  rintro e1 v2 ⟨rfl, hb⟩
  replace ka := Lib.hid (Blk.below ka.out hb)
  replace kr := Lib.hid (Blk.below kr.out hb)
  replace hBW := Lib.hid (hBW.out.trans (hb.mono hBW.out.size))
  clear hb a0 a1 a2
  have a0 : v2.cell? ⟨w.heap.size, 0, none⟩ = some (.bool ng) := ka.out.cell 0
  have a1 : v2.cell? ⟨w.heap.size, 1, none⟩ = some (.string nu) := ka.out.cell 1
  have a2 : v2.cell? ⟨w.heap.size, 2, none⟩ = some (.string de) := ka.out.cell 2
  go_wp2_with fail
  refine (rof_any ng nu de _ z1 z2).mono ?_
  rintro e1 v3 ⟨rfl, hb⟩
  rw [hsv.out]
  have hgx := (Blk.below kr.out hb).lt
  replace ka := (Blk.below ka.out hb).alloc (.cells #[.int .u64 (x : Int), .int .u64 (y : Int)] 34)
  replace kr := (Blk.below kr.out hb).alloc (.cells #[.int .u64 (x : Int), .int .u64 (y : Int)] 34)
  have kx := Blk.new v3 34 #[.int .u64 (x : Int), .int .u64 (y : Int)]
  replace hBW := hBW.out.trans (hb.mono hBW.out.size)
  replace hBW := hBW.alloc hBW.size (.cells #[.int .u64 (x : Int), .int .u64 (y : Int)] 34)
  clear hb a0 a1 a2
  go_upto_region 5 with fail
  generalize hxx : v3.alloc (.cells #[.int .u64 (x : Int), .int .u64 (y : Int)] 34) = u at ka kr kx hBW ⊢
  generalize hgg : v3.heap.size = gx at *
  clear hxx hgg
  replace ka := Lib.hid ka
  replace kr := Lib.hid kr
  replace kx := Lib.hid kx
  replace hBW := Lib.hid hBW
  have a0 : u.cell? ⟨w.heap.size, 0, none⟩ = some (.bool ng) := ka.out.cell 0
  have a1 : u.cell? ⟨w.heap.size, 1, none⟩ = some (.string nu) := ka.out.cell 1
  have a2 : u.cell? ⟨w.heap.size, 2, none⟩ = some (.string de) := ka.out.cell 2
  by_cases hok : okA ng nu de = true ∧ roundB d = true
  rotate_left
  · have hR0 : orbR ng nu de d = [] := by
      unfold orbR
      rw [if_neg (by simpa using hok)]
    have hcase : okA ng nu de = false ∨ (okA ng nu de = true ∧ roundB d = false) := by
      cases h1 : okA ng nu de
      · exact .inl rfl
      · cases h2 : roundB d
        · exact .inr ⟨rfl, rfl⟩
        · exact absurd ⟨h1, h2⟩ hok
    have hpe : p = 0 ∧ n = 0 ∧ e = (if okA ng nu de then 2 else 210) := by
      have h := hkv.out
      unfold kindV at h
      rcases hcase with h1 | ⟨h1, h2⟩
      · rw [h1] at h ⊢
        simp at h
        simp
        omega
      · rw [h1, h2] at h
        rw [h1]
        simp at h
        simp
        omega
    obtain ⟨rfl, rfl, he⟩ := hpe
    replace hR0 := Lib.hid hR0
    clear hok hkv kk
    rcases hcase with h1 | ⟨h1, h2⟩
    · rw [h1] at he ⊢
      replace h1 := Lib.hid h1
      simp at he
      subst he
      go_wp2_with fail
      refine (orbit_any ng nu de d _).mono ?_
      rintro e1 v4 ⟨gA, gD, rfl, -, -, hb⟩
      replace ka := Lib.hid (Blk.below ka.out hb)
      replace kr := Lib.hid (Blk.below kr.out hb)
      replace hBW := Lib.hid (hBW.out.trans (hb.mono hBW.out.size))
      clear hb a0 a1 a2 kx
      have a0 : v4.cell? ⟨w.heap.size, 0, none⟩ = some (.bool ng) := ka.out.cell 0
      have a1 : v4.cell? ⟨w.heap.size, 1, none⟩ = some (.string nu) := ka.out.cell 1
      have a2 : v4.cell? ⟨w.heap.size, 2, none⟩ = some (.string de) := ka.out.cell 2
      go_wp2_with fail
      refine (orbit_any ng nu de d _).mono ?_
      rintro e1 v5 ⟨gA2, gD2, rfl, hA, hD, hb⟩
      replace ka := Lib.hid (Blk.below ka.out hb)
      replace kr := Lib.hid (Blk.below kr.out hb)
      replace hBW := Lib.hid (hBW.out.trans (hb.mono hBW.out.size))
      replace hA := Lib.hid hA
      replace hD := Lib.hid hD
      have hlt5 := Lib.hid kr.out.lt
      have hw5 := Lib.hid hBW.out.size
      clear hb a0 a1 a2
      go_wp2_with fail
      refine (wpIn_wide (n := 0)).1 ?_
      refine wpIn_iterB (gf := 55) (lb := #[.pointer (some ⟨gA2, 0, none⟩), .pointer (some ⟨gD2, 0, none⟩)]) rfl (enters_of Try.func55 (by kernel_rfl) rfl) (orbit_iter ng nu de d gA2 gD2 v5 z1 z2 hA.out hD.out) (Below.refl _ _) (fun k hk => by rcases hk with rfl | rfl <;> first | exact hA.out.lt | exact hD.out.lt) (fun _ => rfl)
        (fun _ _ W => v5.grownBy W none) (fun _ _ _ _ => False) (fun m s A B h ho => gb_out h ho) (fun _ _ _ _ _ h _ => h) (fun _ => gb_refl _ _) ?rd ?dn ?st
      case rd =>
        intro m l pre x W _ _ hp
        rw [hR0.out] at hp
        exact (no_prefix hp).elim
      case st => intro m c pre W _ h; exact h.elim
      case dn =>
        intro m W hg hK
        replace kr := Blk.grown kr.out hg (fun e => by cases e)
        replace hBW := hBW.out.grown hg hBW.out.size (fun k hk => by cases hk)
        have hsz := hg.size
        have r0 : W.cell? ⟨w.heap.size + 1, 0, none⟩ = some (.bool false) := kr.cell 0
        have r1 := kr.frozen 0
        have hne : v5.heap.size ≠ w.heap.size + 1 := by have := hlt5.out; omega
        have hle := hw5.out
        have kr2 := blk_put (kr.set_ 0 (.bool true)) (Ne.symm hne) (.deferred none)
        have hB2 := below_put (hBW.setCell (p := ⟨w.heap.size + 1, 0, none⟩) (by simp) (.bool true)) hle (.deferred none)
        have hK2 := put_set (p := ⟨w.heap.size + 1, 0, none⟩) hK hne (.bool true)
        replace kr2 := Lib.hid kr2
        replace hB2 := Lib.hid hB2
        replace hK2 := Lib.hid hK2
        clear hg ka hK hBW kr hsz
        go_wp2_with fail
        have q0 := kr2.out.cell 0
        refine leaves_one hK2.out (v := .bool true) (by simp [results, Try.results5, go_sem, q0]) ⟨rfl, hB2.out⟩
    · rw [h1] at he ⊢
      replace h1 := Lib.hid h1
      replace h2 := Lib.hid h2
      simp at he
      subst he
      go_wp2_with fail
      refine (rround_any d _).mono ?_
      rintro e1 x0 ⟨rfl, rfl⟩
      rw [h2.out]
      go_wp2_with fail
      refine (orbit_any ng nu de d _).mono ?_
      rintro e1 v4 ⟨gA, gD, rfl, -, -, hb⟩
      replace ka := Lib.hid (Blk.below ka.out hb)
      replace kr := Lib.hid (Blk.below kr.out hb)
      replace hBW := Lib.hid (hBW.out.trans (hb.mono hBW.out.size))
      clear hb a0 a1 a2 kx
      have a0 : v4.cell? ⟨w.heap.size, 0, none⟩ = some (.bool ng) := ka.out.cell 0
      have a1 : v4.cell? ⟨w.heap.size, 1, none⟩ = some (.string nu) := ka.out.cell 1
      have a2 : v4.cell? ⟨w.heap.size, 2, none⟩ = some (.string de) := ka.out.cell 2
      go_wp2_with fail
      refine (orbit_any ng nu de d _).mono ?_
      rintro e1 v5 ⟨gA2, gD2, rfl, hA, hD, hb⟩
      replace ka := Lib.hid (Blk.below ka.out hb)
      replace kr := Lib.hid (Blk.below kr.out hb)
      replace hBW := Lib.hid (hBW.out.trans (hb.mono hBW.out.size))
      replace hA := Lib.hid hA
      replace hD := Lib.hid hD
      have hlt5 := Lib.hid kr.out.lt
      have hw5 := Lib.hid hBW.out.size
      clear hb a0 a1 a2
      go_wp2_with fail
      refine (wpIn_wide (n := 0)).1 ?_
      refine wpIn_iterB (gf := 55) (lb := #[.pointer (some ⟨gA2, 0, none⟩), .pointer (some ⟨gD2, 0, none⟩)]) rfl (enters_of Try.func55 (by kernel_rfl) rfl) (orbit_iter ng nu de d gA2 gD2 v5 z1 z2 hA.out hD.out) (Below.refl _ _) (fun k hk => by rcases hk with rfl | rfl <;> first | exact hA.out.lt | exact hD.out.lt) (fun _ => rfl)
        (fun _ _ W => v5.grownBy W none) (fun _ _ _ _ => False) (fun m s A B h ho => gb_out h ho) (fun _ _ _ _ _ h _ => h) (fun _ => gb_refl _ _) ?rd ?dn ?st
      case rd =>
        intro m l pre x W _ _ hp
        rw [hR0.out] at hp
        exact (no_prefix hp).elim
      case st => intro m c pre W _ h; exact h.elim
      case dn =>
        intro m W hg hK
        replace kr := Blk.grown kr.out hg (fun e => by cases e)
        replace hBW := hBW.out.grown hg hBW.out.size (fun k hk => by cases hk)
        have hsz := hg.size
        have r0 : W.cell? ⟨w.heap.size + 1, 0, none⟩ = some (.bool false) := kr.cell 0
        have r1 := kr.frozen 0
        have hne : v5.heap.size ≠ w.heap.size + 1 := by have := hlt5.out; omega
        have hle := hw5.out
        have kr2 := blk_put (kr.set_ 0 (.bool true)) (Ne.symm hne) (.deferred none)
        have hB2 := below_put (hBW.setCell (p := ⟨w.heap.size + 1, 0, none⟩) (by simp) (.bool true)) hle (.deferred none)
        have hK2 := put_set (p := ⟨w.heap.size + 1, 0, none⟩) hK hne (.bool true)
        replace kr2 := Lib.hid kr2
        replace hB2 := Lib.hid hB2
        replace hK2 := Lib.hid hK2
        clear hg ka hK hBW kr hsz
        go_wp2_with fail
        have q0 := kr2.out.cell 0
        refine leaves_one hK2.out (v := .bool true) (by simp [results, Try.results5, go_sem, q0]) ⟨rfl, hB2.out⟩
  obtain ⟨ok, hr⟩ := hok
  obtain ⟨ex, ey, k1, l⟩ := hq.out ok
  have hd := roundB_iff.1 hr
  obtain ⟨dn, rfl⟩ := Int.eq_ofNat_of_zero_le (show 0 ≤ d by omega)
  have hgc : Nat.gcd x y = 1 := by rw [ex, ey]; exact (okA_spec ok).2.2.2.1
  have y0 : 0 < y := by omega
  obtain ⟨A, hAe⟩ : ∃ A, A = (kindN y dn).1 := ⟨_, rfl⟩
  obtain ⟨B, hBe⟩ : ∃ B, B = (kindN y dn).2 := ⟨_, rfl⟩
  have hpe : p = (A : Int) ∧ n = (B : Int) ∧ e = 0 := by
    have h := hkv.out
    unfold kindV at h
    rw [if_pos ok, if_pos hr, Int.toNat_natCast, ← ey, ← hAe, ← hBe] at h
    simp at h
    omega
  obtain ⟨rfl, rfl, rfl⟩ := hpe
  have hd2 : 2 ≤ dn := by omega
  have hd64 : dn ≤ 64 := by omega
  have kd : ∀ W, Calls Try.prog 22 #[.agg #[.int .u64 (x : Int), .int .u64 (y : Int)], .int .i64 (dn : Int)] W (RetVal (.tuple #[.int .i64 (A : Int), .int .i64 (B : Int)]) W) := fun W => rkind_any x y dn A B W y0 (by omega) hd2 hd64 (Lib.hid (by rw [hAe, hBe]))
  obtain ⟨t, ht⟩ : ∃ t, t = orbN y dn := ⟨_, rfl⟩
  have hR : Hid (orbR ng nu de (dn : Int) = orbL x y dn t) := Lib.hid (by
    rw [orbR, ok, hr, ht, ← ex, ← ey]
    simp)
  have hwant : Hid (∀ (M : Nat), M ≤ 100000 → ∀ W, Calls Try.prog 23 #[.agg #[.int .u64 (x : Int), .int .u64 (y : Int)], .int .i64 (dn : Int), .int .i64 (M : Int)] W (RetOrb (min M t) (decide (t < M)) x y dn W)) := Lib.hid (fun M hM W => by
    rw [ht]; exact rorbit_any x y dn M W k1 l hgc hd2 hd64 hM)
  have hmem : Hid (∀ i, (orbM x y dn i).1 < 18446744073709551616 ∧ (orbM x y dn i).2 < 18446744073709551616) := Lib.hid (fun i => by
    obtain ⟨-, f2, f3⟩ := orbM_facts (x := x) (d := dn) (n := i) y0
    omega)
  have ht1 : 1 ≤ t := by rw [ht]; exact orbN_pos y0
  replace kd := Lib.hid kd
  rw [ok]
  replace hr := Lib.hid hr
  clear hd hgc y0 hAe hBe hkv kk ex ey hq hsv ok ht
  go_wp2_with fail
  refine (rround_any (dn : Int) _).mono ?_
  rintro e1 x0 ⟨rfl, rfl⟩
  rw [hr.out]
  have hgm := kx.out.lt
  replace ka := ka.out.alloc (.cells #[.int .i64 40] 3)
  replace kr := kr.out.alloc (.cells #[.int .i64 40] 3)
  replace kx := kx.out.alloc (.cells #[.int .i64 40] 3)
  have km := Blk.new u 3 #[.int .i64 40]
  replace hBW := hBW.out.alloc hBW.out.size (.cells #[.int .i64 40] 3)
  clear a0 a1 a2
  go_upto_region 12 with fail
  generalize hxx : u.alloc (.cells #[.int .i64 40] 3) = u1 at ka kr kx km hBW ⊢
  generalize hgg : u.heap.size = gm at *
  clear hxx hgg
  replace ka := Lib.hid ka
  replace kr := Lib.hid kr
  replace kx := Lib.hid kx
  replace km := Lib.hid km
  replace hBW := Lib.hid hBW
  have b0 : u1.cell? ⟨gx, 0, none⟩ = some (.int .u64 (x : Int)) := kx.out.cell 0
  have b1 : u1.cell? ⟨gx, 1, none⟩ = some (.int .u64 (y : Int)) := kx.out.cell 1
  go_upto_if 69 with (go_at_call 21; refine (little_any x y _).mono ?_; rintro e1 u2 ⟨rfl, hb⟩)
  replace ka := Lib.hid (Blk.below ka.out hb)
  replace kr := Lib.hid (Blk.below kr.out hb)
  replace kx := Lib.hid (Blk.below kx.out hb)
  replace km := Lib.hid (Blk.below km.out hb)
  replace hBW := Lib.hid (hBW.out.trans (hb.mono hBW.out.size))
  clear hb b0 b1
  go_cut [13, 14] from 69 to 88 (fun _ _ wx => ∃ M : Nat, (M = 40 ∨ M = 4000) ∧ Blk wx gm 3 #[.int .i64 (M : Int)] ∧ Blk wx w.heap.size 24 #[.bool ng, .string nu, .string de] ∧ Blk wx (w.heap.size + 1) 4 #[.bool false] ∧ Blk wx gx 34 #[.int .u64 (x : Int), .int .u64 (y : Int)] ∧ Below w.heap.size w wx)
  case first =>
    by_cases hl3 : y ≤ 3000
    · have hl4 : decide (y ≤ 3000) = true := decide_eq_true hl3
      rw [hl4]
      have b0 : u2.cell? ⟨gx, 0, none⟩ = some (.int .u64 (x : Int)) := kx.out.cell 0
      have b1 : u2.cell? ⟨gx, 1, none⟩ = some (.int .u64 (y : Int)) := kx.out.cell 1
      clear hl3 hl4
      go_wp2_with fail
      refine (kd.out _).mono ?_
      rintro e1 u3 ⟨rfl, hb⟩
      have ka3 := Blk.below ka.out hb
      have kr3 := Blk.below kr.out hb
      have kx3 := Blk.below kx.out hb
      have km3 := Blk.below km.out hb
      have hB3 := hBW.out.trans (hb.mono hBW.out.size)
      have g0 : u3.cell? ⟨gm, 0, none⟩ = some (.int .i64 40) := km3.cell 0
      have g1 := km3.frozen 0
      have km4 : Blk (u3.setCell ⟨gm, 0, none⟩ (.int .i64 4000)) gm 3 #[.int .i64 4000] := km3.set_ 0 _
      have ka4 := ka3.far (p := ⟨gm, 0, none⟩) (by simp; omega) (.int .i64 4000)
      have kr4 := kr3.far (p := ⟨gm, 0, none⟩) (by simp; omega) (.int .i64 4000)
      have kx4 := kx3.far (p := ⟨gm, 0, none⟩) (by simp; omega) (.int .i64 4000)
      have hB4 := hB3.setCell (p := ⟨gm, 0, none⟩) (by simp; omega) (.int .i64 4000)
      replace km4 := Lib.hid km4
      replace ka4 := Lib.hid ka4
      replace kr4 := Lib.hid kr4
      replace kx4 := Lib.hid kx4
      replace hB4 := Lib.hid hB4
      clear ka3 kr3 kx3 km3 hB3 hb ka kr kx km hBW b0 b1
      go_wp2_with fail
      go_meet
      case rel => exact ⟨4000, .inr rfl, km4.out, ka4.out, kr4.out, kx4.out, hB4.out⟩
    · have hl4 : decide (y ≤ 3000) = false := decide_eq_false hl3
      rw [hl4]
      clear hl3 hl4
      go_wp2_with fail
      go_meet
      case rel => exact ⟨40, .inl rfl, km.out, ka.out, kr.out, kx.out, hBW.out⟩
  case rest =>
    obtain ⟨M0, hM0, km, ka, kr, kx, hBW⟩ := hcut
    obtain ⟨w5, rfl⟩ : ∃ w5 : World, w5 = wc := ⟨_, rfl⟩
    replace ka := Lib.hid ka
    replace kr := Lib.hid kr
    replace kx := Lib.hid kx
    replace km := Lib.hid km
    replace hBW := Lib.hid hBW
    have m0 : w5.cell? ⟨gm, 0, none⟩ = some (.int .i64 (M0 : Int)) := km.out.cell 0
    have m1 := km.out.frozen 0
    go_upto_region 17 with fail
    go_cut [94] from 88 to 94 (fun s wx => s = .bool (decide (1 ≤ few) && decide (few < (M0 : Int))) ∧ w5 = wx)
    case first =>
      by_cases f1 : 1 ≤ few
      · have e1 : decide (1 ≤ few) = true := decide_eq_true f1
        by_cases f2 : few < (M0 : Int)
        · have e2 : decide (few < (M0 : Int)) = true := decide_eq_true f2
          have hv : Hid ((decide (1 ≤ few) && decide (few < (M0 : Int))) = true) := Lib.hid (by simp [e1, e2])
          go_wp2_with fail
          go_meet
          case rel => exact ⟨by first | rfl | (rw [hv.out]), by first | rfl | trivial⟩
        · have e2 : decide (few < (M0 : Int)) = false := decide_eq_false f2
          have hv : Hid ((decide (1 ≤ few) && decide (few < (M0 : Int))) = false) := Lib.hid (by simp [e1, e2])
          go_wp2_with fail
          go_meet
          case rel => exact ⟨by first | rfl | (rw [hv.out]), by first | rfl | trivial⟩
      · have e1 : decide (1 ≤ few) = false := decide_eq_false f1
        have hv : Hid ((decide (1 ≤ few) && decide (few < (M0 : Int))) = false) := Lib.hid (by simp [e1])
        go_wp2_with fail
        go_meet
        case rel => exact ⟨by first | rfl | (rw [hv.out]), by first | rfl | trivial⟩
    case rest =>
      obtain ⟨rfl, rfl⟩ := hcut
      go_upto_if 94 with fail
      go_cut [] from 94 to 96 (fun wx => ∃ M : Nat, 1 ≤ M ∧ M ≤ 4000 ∧ Blk wx gm 3 #[.int .i64 (M : Int)] ∧ Blk wx w.heap.size 24 #[.bool ng, .string nu, .string de] ∧ Blk wx (w.heap.size + 1) 4 #[.bool false] ∧ Blk wx gx 34 #[.int .u64 (x : Int), .int .u64 (y : Int)] ∧ Below w.heap.size w wx)
      case first =>
        by_cases hf : 1 ≤ few ∧ few < (M0 : Int)
        · have hv : (decide (1 ≤ few) && decide (few < (M0 : Int))) = true := by simpa using hf
          obtain ⟨M, hM⟩ := Int.eq_ofNat_of_zero_le (show 0 ≤ few by omega)
          have hM1 : 1 ≤ M ∧ M ≤ 4000 := by omega
          rw [hv]
          subst hM
          have km4 : Blk (w5.setCell ⟨gm, 0, none⟩ (.int .i64 (M : Int))) gm 3 #[.int .i64 (M : Int)] := km.out.set_ 0 _
          have ka4 := ka.out.far (p := ⟨gm, 0, none⟩) (by simp; omega) (.int .i64 (M : Int))
          have kr4 := kr.out.far (p := ⟨gm, 0, none⟩) (by simp; omega) (.int .i64 (M : Int))
          have kx4 := kx.out.far (p := ⟨gm, 0, none⟩) (by simp; omega) (.int .i64 (M : Int))
          have hB4 := hBW.out.setCell (p := ⟨gm, 0, none⟩) (by simp; omega) (.int .i64 (M : Int))
          replace km4 := Lib.hid km4
          replace ka4 := Lib.hid ka4
          replace kr4 := Lib.hid kr4
          replace kx4 := Lib.hid kx4
          replace hB4 := Lib.hid hB4
          clear hv hf ka kr kx km hBW
          go_wp2_with fail
          go_meet
          case rel => exact ⟨M, hM1.1, hM1.2, km4.out, ka4.out, kr4.out, kx4.out, hB4.out⟩
        · have hv : (decide (1 ≤ few) && decide (few < (M0 : Int))) = false := by
            rw [Bool.and_eq_false_iff, decide_eq_false_iff_not, decide_eq_false_iff_not]
            omega
          rw [hv]
          clear hv hf
          go_wp2_with fail
          go_meet
          case rel => exact ⟨M0, by omega, by omega, km.out, ka.out, kr.out, kx.out, hBW.out⟩
      case rest =>
        obtain ⟨M, hM1, hM2, km, ka, kr, kx, hBW⟩ := hcut
        obtain ⟨w6, rfl⟩ : ∃ w6 : World, w6 = wc := ⟨_, rfl⟩
        replace ka := Lib.hid ka
        replace kr := Lib.hid kr
        replace km := Lib.hid km
        replace hBW := Lib.hid hBW
        have x0 : w6.cell? ⟨gx, 0, none⟩ = some (.int .u64 (x : Int)) := kx.cell 0
        have x1 : w6.cell? ⟨gx, 1, none⟩ = some (.int .u64 (y : Int)) := kx.cell 1
        have m0 : w6.cell? ⟨gm, 0, none⟩ = some (.int .i64 (M : Int)) := km.out.cell 0
        clear kx kd hM0
        go_wp2_with fail
        refine (hwant.out M (by omega) _).mono ?_
        rintro e1 w7 ⟨v, rfl, hown, hb⟩
        have hK1 : 1 ≤ min M t := by omega
        obtain ⟨gv, capv, rfl⟩ : ∃ g cap, v = .slice (some ⟨g, 0, none⟩) (min M t) cap := by
          rcases own_forms hown with ⟨-, h⟩ | h
          · omega
          · exact h
        obtain ⟨K, hK⟩ : ∃ K, K = min M t := ⟨_, rfl⟩
        rw [← hK] at hown hK1 ⊢
        obtain ⟨al, hal⟩ : ∃ b, b = decide (t < M) := ⟨_, rfl⟩
        rw [← hal]
        replace ka := (Blk.below ka.out hb).alloc (.cells #[.slice (some ⟨gv, 0, none⟩) K capv] 44)
        replace kr := (Blk.below kr.out hb).alloc (.cells #[.slice (some ⟨gv, 0, none⟩) K capv] 44)
        replace km := (Blk.below km.out hb).alloc (.cells #[.slice (some ⟨gv, 0, none⟩) K capv] 44)
        have kw := Blk.new w7 44 #[.slice (some ⟨gv, 0, none⟩) K capv]
        replace hBW := hBW.out.trans (hb.mono hBW.out.size)
        replace hBW := hBW.alloc hBW.size (.cells #[.slice (some ⟨gv, 0, none⟩) K capv] 44)
        have hownA := hown.alloc (.cells #[.slice (some ⟨gv, 0, none⟩) K capv] 44)
        clear hb x0 x1 m0 hown hwant
        replace hK := Lib.hid hK
        replace hal := Lib.hid hal
        go_upto_region 20 with fail
        generalize hxx : w7.alloc (.cells #[.slice (some ⟨gv, 0, none⟩) K capv] 44) = w8 at ka kr km kw hBW hownA ⊢
        generalize hgg : w7.heap.size = gw at *
        clear hxx hgg
        replace ka := Lib.hid ka
        replace kr := Lib.hid kr
        replace km := Lib.hid km
        replace kw := Lib.hid kw
        replace hBW := Lib.hid hBW
        replace hownA := Lib.hid hownA
        have a0 : w8.cell? ⟨w.heap.size, 0, none⟩ = some (.bool ng) := ka.out.cell 0
        have a1 : w8.cell? ⟨w.heap.size, 1, none⟩ = some (.string nu) := ka.out.cell 1
        have a2 : w8.cell? ⟨w.heap.size, 2, none⟩ = some (.string de) := ka.out.cell 2
        go_wp2_with fail
        refine (orbit_any ng nu de (dn : Int) _).mono ?_
        rintro e1 P1 ⟨gA, gD, rfl, hA, hD, hb⟩
        replace kr := Lib.hid (Blk.below kr.out hb)
        replace km := Lib.hid (Blk.below km.out hb)
        replace kw := Lib.hid (Blk.below kw.out hb)
        replace hBW := Lib.hid (hBW.out.trans (hb.mono hBW.out.size))
        replace hownA := Lib.hid (own_below hownA.out hb)
        replace hA := Lib.hid hA
        replace hD := Lib.hid hD
        clear hb a0 a1 a2 ka
        go_wp2_with fail
        refine wp_loop_rounds 3 ?_
        rw [rounds_succ]
        have kk := Blk.new P1 3 #[.int .i64 0]
        have hUA := (hA.out).alloc (.cells #[.int .i64 0] 3)
        have hUD := (hD.out).alloc (.cells #[.int .i64 0] 3)
        have hUm := (km.out).alloc (.cells #[.int .i64 0] 3)
        have hUw := (kw.out).alloc (.cells #[.int .i64 0] 3)
        have hUo := (hownA.out).alloc (.cells #[.int .i64 0] 3)
        have hPU : P1.grownBy (P1.alloc (.cells #[.int .i64 0] 3)) none := World.grownBy_alloc P1 _ none
        have hAl := hA.out.lt
        have hDl := hD.out.lt
        have hml := km.out.lt
        have hwl := kw.out.lt
        have hvl := (hownA.out.lt gv rfl).2
        go_upto_region 26 with fail
        generalize hxx : P1.alloc (.cells #[.int .i64 0] 3) = U at kk hUA hUD hUm hUw hUo hPU ⊢
        generalize hgg : P1.heap.size = gk at kk hAl hDl hml hwl hvl ⊢
        replace hgg := Lib.hid hgg
        clear hxx
        go_upto_block 4 with fail
        refine wp_meet U.heap.size (fun W => U.grownBy W (some gk) ∧ Blk W gk 3 #[.int .i64 (K : Int)] ∧ (al = true ∨ K = M) ∧ W.heap[U.heap.size]? = some (.deferred (some []))) ?h1 ?h2
        case h1 =>
          replace hUA := Lib.hid hUA
          replace hUD := Lib.hid hUD
          replace hUm := Lib.hid hUm
          replace hUw := Lib.hid hUw
          replace hUo := Lib.hid hUo
          replace kk := Lib.hid kk
          replace hPU := Lib.hid hPU
          go_wp2_with fail
          refine (wpIn_wide (n := 0)).1 ?_
          refine wpIn_iterB (gf := 55) (lb := #[.pointer (some ⟨gA, 0, none⟩), .pointer (some ⟨gD, 0, none⟩)]) rfl (enters_of Try.func55 (by kernel_rfl) rfl) (orbit_iter ng nu de (dn : Int) gA gD U z1 z2 hUA.out hUD.out) (Below.refl _ _) (fun k hk => by rcases hk with rfl | rfl <;> first | exact hUA.out.lt | exact hUD.out.lt) (fun _ => rfl)
            (fun _ pre W => U.grownBy W (some gk) ∧ Blk W gk 3 #[.int .i64 (pre.length : Int)] ∧ pre.length < M) (fun _ c pre W => c = .exit 4 ∧ U.grownBy W (some gk) ∧ Blk W gk 3 #[.int .i64 (pre.length : Int)] ∧ pre.length = M)
            (fun m s A B h ho => ⟨gb_out h.1 ho, blk_out h.2.1 kk.out.lt ho, h.2.2⟩) (fun m c s A B h ho => ⟨h.1, gb_out h.2.1 ho, blk_out h.2.2.1 kk.out.lt ho, h.2.2.2⟩) (fun _ => ⟨gb_refl _ _, kk.out, hM1⟩) ?rd ?dn ?st
          case dn =>
            rintro m W ⟨h1, h2, h3⟩ hK4
            rw [hR.out, orbL_len] at h2 h3
            have e1 : K = t := by rw [hK.out]; omega
            exact ⟨rfl, h1, by rw [e1]; exact h2, .inl (by rw [hal.out]; exact decide_eq_true h3), hK4⟩
          case st =>
            rintro m c pre W hp ⟨rfl, h1, h2, h3⟩ hK4
            have e1 : K = M := by
              have h5 := hp.length_le
              rw [hR.out, orbL_len] at h5
              rw [hK.out]; omega
            rw [h3] at h2
            refine wpIn_wide.2 ?_
            go_wp2_with fail
            exact ⟨by first | rfl | trivial, h1, by rw [e1]; exact h2, .inr e1, hK4⟩
          case rd =>
            rintro m l pre p W ⟨hg, hk, hlt⟩ hsz hpre Kk hKk
            rw [hR.out] at hpre
            obtain ⟨hp1, hp2, hp3⟩ := orbL_head hpre
            obtain ⟨j, hj⟩ : ∃ j, j = pre.length := ⟨_, rfl⟩
            rw [← hj] at hk hlt hp1 hp2 hp3
            obtain ⟨N, D⟩ := p
            replace hg := Lib.hid hg
            replace hk := Lib.hid hk
            replace hp1 := Lib.hid hp1
            replace hp2 := Lib.hid hp2
            replace hj := Lib.hid hj
            replace hpre := Lib.hid hpre
            replace hKk := Lib.hid hKk
            simp only [ratV]
            gi_wp2_with fail
            refine hKk.out _ _ ((KeepB.refl _ W).alloc (fun k hk => by have := kk.out.lt; rcases hk with (h | h) | h <;> omega) _) ?_
            intro o
            have hkU := kk.out.lt
            have hne1 : gk ≠ U.heap.size + 1 := by omega
            have kbX := blk_put (Blk.new W 24 #[.bool false, .string (natS N), .string (natS D)]) (show W.heap.size ≠ U.heap.size + 1 by omega) o
            have kkX := blk_put (hk.out.alloc (.cells #[.bool false, .string (natS N), .string (natS D)] 24)) hne1 o
            have kmX := blk_put ((Blk.grown hUm.out hg.out (fun e => by injection e; omega)).alloc (.cells #[.bool false, .string (natS N), .string (natS D)] 24)) (show gm ≠ U.heap.size + 1 by omega) o
            have kwX := blk_put ((Blk.grown hUw.out hg.out (fun e => by injection e; omega)).alloc (.cells #[.bool false, .string (natS N), .string (natS D)] 24)) (show gw ≠ U.heap.size + 1 by omega) o
            have koX := own_put (((hUo.out.kept hg.out (.inr (fun e => by have h : gv = gk := (by simpa [Value.ownBlock] using e); omega)))).alloc (.cells #[.bool false, .string (natS N), .string (natS D)] 24)) (r := U.heap.size + 1) (fun e => by have h : gv = U.heap.size + 1 := (by simpa [Value.ownBlock] using e); omega) o
            have hGX : U.grownBy ((W.alloc (.cells #[.bool false, .string (natS N), .string (natS D)] 24)).putObj (U.heap.size + 1) o) (some gk) := gb_out (hi := U.heap.size + 2) hg.out (((OutB.refl _ _ W).alloc _).put (by omega) (by omega) o)
            have hXs : ((W.alloc (.cells #[.bool false, .string (natS N), .string (natS D)] 24)).putObj (U.heap.size + 1) o).heap.size = W.heap.size + 1 := by simp
            generalize hxx : (W.alloc (.cells #[.bool false, .string (natS N), .string (natS D)] 24)).putObj (U.heap.size + 1) o = X at kbX kkX kmX kwX koX hGX hXs ⊢
            generalize hgg : W.heap.size = gb at *
            clear hxx hgg hg hk hKk
            have hjK : j < K := by rw [hK.out]; omega
            obtain ⟨s0, s1⟩ := angC_get _ j _ (orbL_get (x := x) (y := y) (d := dn) hjK)
            rw [← hp2.out] at s0 s1
            have hND : N < 18446744073709551616 ∧ D < 18446744073709551616 := by have h := hmem.out j; rw [← hp2.out] at h; exact h
            have c0 : ∀ d os, (grow (redrawn X d) os).cell? ⟨gv, j * 2, none⟩ = some (.int .u64 (N : Int)) := cell_regrown (by rw [koX.cellAt _ (by omega)]; exact s0)
            have c1 : ∀ d os, (grow (redrawn X d) os).cell? ⟨gv, j * 2 + 1, none⟩ = some (.int .u64 (D : Int)) := cell_regrown (by rw [koX.cellAt _ (by omega)]; exact s1)
            have b0 : ∀ d os, (grow (redrawn X d) os).cell? ⟨gb, 0, none⟩ = some (.bool false) := cell_regrown (Blk.cell kbX 0)
            have b1 : ∀ d os, (grow (redrawn X d) os).cell? ⟨gb, 1, none⟩ = some (.string (natS N)) := cell_regrown (Blk.cell kbX 1)
            have b2 : ∀ d os, (grow (redrawn X d) os).cell? ⟨gb, 2, none⟩ = some (.string (natS D)) := cell_regrown (Blk.cell kbX 2)
            have k0 : ∀ d os, (grow (redrawn X d) os).cell? ⟨gk, 0, none⟩ = some (.int .i64 (j : Int)) := cell_regrown (Blk.cell kkX 0)
            have w0 : ∀ d os, (grow (redrawn X d) os).cell? ⟨gw, 0, none⟩ = some (.slice (some ⟨gv, 0, none⟩) K capv) := cell_regrown (Blk.cell kwX 0)
            have cc : ∀ d os, Calls Try.prog 24 #[.agg #[.int .u64 (N : Int), .int .u64 (D : Int)]] (grow (redrawn X d) os) fun e w'' => e = .returned (.agg #[.bool false, .string (natS N), .string (natS D)]) ∧ ∃ p : Regrown, w'' = grow (redrawn X p.d) p.os :=
              fun d os => Calls.regrown_of (rratio_any N D _ hND.1 hND.2)
            replace kkX := Lib.hid kkX
            replace kmX := Lib.hid kmX
            replace hGX := Lib.hid hGX
            replace hmem := Lib.hid hmem
            clear kbX kwX koX s0 s1
            have hjKI : (j : Int) < (K : Int) := by omega
            have hj0I : (0 : Int) ≤ (j : Int) := by omega
            have hXlt : gb < X.heap.size := by omega
            gi_wp2_with fail
            refine wpIn_region_quiet_round (by kernel_rfl) (by kernel_rfl) (by kernel_rfl) ?_
            iterate 10 (quiet_step (fail))
            quiet_step (exact cc _ _)
            iterate 2 (quiet_step (fail))
            refine wpQuiet_nil ?_
            intro Y hw'
            have hb : Below X.heap.size X Y := by
              obtain ⟨p, rfl⟩ := hw'
              exact below_regrown X p.d p.os
            clear hw' cc c0 c1 b0 b1 b2 k0 w0
            have hlen : (pre ++ [(N, D)]).length = j + 1 := by rw [List.length_append, ← hj.out]; rfl
            have kkY := Blk.below kkX.out hb
            have kmY := (Blk.below kmX.out hb).far (p := ⟨gk, 0, none⟩) (by simp; omega) (.int .i64 ((j : Int) + 1))
            have hGY := gb_set (gb_trans hGX.out (grown_below hb)) 0 (.int .i64 ((j : Int) + 1))
            have kkZ : Blk (Y.setCell ⟨gk, 0, none⟩ (.int .i64 ((j : Int) + 1))) gk 3 #[.int .i64 (((pre ++ [(N, D)]).length : Nat) : Int)] := by
              rw [hlen]
              push_cast
              exact kkY.set_ 0 _
            have hKp : KeepB (fun k => (k = gA ∨ k = gD) ∨ U.heap.size ≤ k ∧ k < U.heap.size + 2 + m) X (Y.setCell ⟨gk, 0, none⟩ (.int .i64 ((j : Int) + 1))) :=
              ((KeepB.refl _ X).below hb (fun k hk => by rcases hk with (h | h) | h <;> omega)).setCell (p := ⟨gk, 0, none⟩) (fun hk => by simp only at hk; omega) _
            have y0 : Y.cell? ⟨gk, 0, none⟩ = some (.int .i64 (j : Int)) := kkY.cell 0
            have y1 := kkY.frozen 0
            have y2 : (Y.setCell ⟨gk, 0, none⟩ (.int .i64 ((j : Int) + 1))).cell? ⟨gm, 0, none⟩ = some (.int .i64 (M : Int)) := kmY.cell 0
            replace hlen := Lib.hid hlen
            replace kkZ := Lib.hid kkZ
            replace hKp := Lib.hid hKp
            replace hGY := Lib.hid hGY
            clear kkY kmY hb
            have hjM : (j : Int) ≤ 4000 := by omega
            by_cases hjl : j + 1 = M
            · have hb2 : ((j : Int) + 1 == (M : Int)) = true := by simp; omega
              have hlM : Hid ((pre ++ [(N, D)]).length = M) := Lib.hid (by rw [hlen.out]; exact hjl)
              clear hjl
              gi_wp2_with fail
              exact ⟨hKp.out, rfl, hGY.out, kkZ.out, hlM.out⟩
            · have hb2 : ((j : Int) + 1 == (M : Int)) = false := by simp; omega
              have hlM : Hid ((pre ++ [(N, D)]).length < M) := Lib.hid (by rw [hlen.out]; omega)
              clear hjl
              gi_wp2_with fail
              exact ⟨hKp.out, hGY.out, kkZ.out, hlM.out⟩
        case h2 =>
          rintro W ⟨hG, hk, hal2, hDf⟩
          have hPW := gb_new hPU hG (by have := hgg.out; omega)
          have hgP := hgg.out
          have krW := Blk.grown kr.out hPW (fun e => by cases e)
          have kmW := Blk.grown km.out hPW (fun e => by cases e)
          have kwW := Blk.grown kw.out hPW (fun e => by cases e)
          have hAW := Blk.grown hA.out hPW (fun e => by cases e)
          have hDW := Blk.grown hD.out hPW (fun e => by cases e)
          have howW := hownA.out.kept hPW (.inr (by simp [Value.ownBlock]))
          have hBWW := hBW.out.grown hPW hBW.out.size (fun k hk => by cases hk)
          have hrl := kr.out.lt
          have hDl2 : P1.heap.size < U.heap.size := by have := kk.lt; omega
          have hDr : w.heap.size + 1 ≠ U.heap.size := by omega
          have hDw : w.heap.size ≤ U.heap.size := by omega
          generalize hde : U.heap.size = D1 at hDf hDl2 hDr hDw ⊢
          have k0 : W.cell? ⟨gk, 0, none⟩ = some (.int .i64 (K : Int)) := hk.cell 0
          have w0 : W.cell? ⟨gw, 0, none⟩ = some (.slice (some ⟨gv, 0, none⟩) K capv) := kwW.cell 0
          have m0 : W.cell? ⟨gm, 0, none⟩ = some (.int .i64 (M : Int)) := kmW.cell 0
          have hDf1 := Lib.hid hDf
          replace krW := Lib.hid krW
          replace kmW := Lib.hid kmW
          replace kwW := Lib.hid kwW
          replace hAW := Lib.hid hAW
          replace hDW := Lib.hid hDW
          replace howW := Lib.hid howW
          replace hBWW := Lib.hid hBWW
          replace hal2 := Lib.hid hal2
          clear hde hDf hG hk hPW kk hUA hUD hUm hUw hUo hPU hgg hgP kr km kw hA hD hownA hBW hAl hDl hml hwl hvl hrl
          dsimp only
          go_upto_region 32 with fail
          obtain ⟨P2, rfl⟩ : ∃ P2 : World, P2 = W := ⟨_, rfl⟩
          go_cut [142] from 130 to 142 (fun s wx => s = .bool false ∧ P2 = wx)
          case first =>
            cases al
            · have e : K = M := hal2.out.resolve_left (by decide)
              subst e
              go_wp2_with fail
              go_meet
              case rel => exact ⟨by first | rfl | trivial, by first | rfl | trivial⟩
            · go_wp2_with fail
              go_meet
              case rel => exact ⟨by first | rfl | trivial, by first | rfl | trivial⟩
          case rest =>
            obtain ⟨rfl, rfl⟩ := hcut
            clear k0 w0 m0
            go_wp2_with fail
            rw [rounds_succ]
            have kr := krW
            have km := kmW
            have kw := kwW
            have hA := hAW
            have hD := hDW
            have hownA := howW
            have hBW := hBWW
            clear krW kmW kwW hAW hDW howW hBWW hal2
            have kk := Blk.new P2 3 #[.int .i64 0]
            have hUA := (hA.out).alloc (.cells #[.int .i64 0] 3)
            have hUD := (hD.out).alloc (.cells #[.int .i64 0] 3)
            have hUm := (km.out).alloc (.cells #[.int .i64 0] 3)
            have hUw := (kw.out).alloc (.cells #[.int .i64 0] 3)
            have hUo := (hownA.out).alloc (.cells #[.int .i64 0] 3)
            have hPU : P2.grownBy (P2.alloc (.cells #[.int .i64 0] 3)) none := World.grownBy_alloc P2 _ none
            have hAl := hA.out.lt
            have hDl := hD.out.lt
            have hml := km.out.lt
            have hwl := kw.out.lt
            have hvl := (hownA.out.lt gv rfl).2
            go_upto_region 26 with fail
            generalize hxx : P2.alloc (.cells #[.int .i64 0] 3) = U2 at kk hUA hUD hUm hUw hUo hPU ⊢
            generalize hgg : P2.heap.size = gk2 at kk hAl hDl hml hwl hvl ⊢
            replace hgg := Lib.hid hgg
            clear hxx
            go_upto_block 4 with fail
            refine wp_meet U2.heap.size (fun W => U2.grownBy W (some gk2) ∧ Blk W gk2 3 #[.int .i64 (K : Int)] ∧ (al = true ∨ K = M) ∧ W.heap[U2.heap.size]? = some (.deferred (some []))) ?h1 ?h2
            case h1 =>
              replace hUA := Lib.hid hUA
              replace hUD := Lib.hid hUD
              replace hUm := Lib.hid hUm
              replace hUw := Lib.hid hUw
              replace hUo := Lib.hid hUo
              replace kk := Lib.hid kk
              replace hPU := Lib.hid hPU
              go_wp2_with fail
              refine (wpIn_wide (n := 0)).1 ?_
              refine wpIn_iterB (gf := 55) (lb := #[.pointer (some ⟨gA, 0, none⟩), .pointer (some ⟨gD, 0, none⟩)]) rfl (enters_of Try.func55 (by kernel_rfl) rfl) (orbit_iter ng nu de (dn : Int) gA gD U2 z1 z2 hUA.out hUD.out) (Below.refl _ _) (fun k hk => by rcases hk with rfl | rfl <;> first | exact hUA.out.lt | exact hUD.out.lt) (fun _ => rfl)
                (fun _ pre W => U2.grownBy W (some gk2) ∧ Blk W gk2 3 #[.int .i64 (pre.length : Int)] ∧ pre.length < M) (fun _ c pre W => c = .exit 4 ∧ U2.grownBy W (some gk2) ∧ Blk W gk2 3 #[.int .i64 (pre.length : Int)] ∧ pre.length = M)
                (fun m s A B h ho => ⟨gb_out h.1 ho, blk_out h.2.1 kk.out.lt ho, h.2.2⟩) (fun m c s A B h ho => ⟨h.1, gb_out h.2.1 ho, blk_out h.2.2.1 kk.out.lt ho, h.2.2.2⟩) (fun _ => ⟨gb_refl _ _, kk.out, hM1⟩) ?rd ?dn ?st
              case dn =>
                rintro m W ⟨h1, h2, h3⟩ hK4
                rw [hR.out, orbL_len] at h2 h3
                have e1 : K = t := by rw [hK.out]; omega
                exact ⟨rfl, h1, by rw [e1]; exact h2, .inl (by rw [hal.out]; exact decide_eq_true h3), hK4⟩
              case st =>
                rintro m c pre W hp ⟨rfl, h1, h2, h3⟩ hK4
                have e1 : K = M := by
                  have h5 := hp.length_le
                  rw [hR.out, orbL_len] at h5
                  rw [hK.out]; omega
                rw [h3] at h2
                refine wpIn_wide.2 ?_
                go_wp2_with fail
                exact ⟨by first | rfl | trivial, h1, by rw [e1]; exact h2, .inr e1, hK4⟩
              case rd =>
                rintro m l pre p W ⟨hg, hk, hlt⟩ hsz hpre Kk hKk
                rw [hR.out] at hpre
                obtain ⟨hp1, hp2, hp3⟩ := orbL_head hpre
                obtain ⟨j, hj⟩ : ∃ j, j = pre.length := ⟨_, rfl⟩
                rw [← hj] at hk hlt hp1 hp2 hp3
                obtain ⟨N, D⟩ := p
                replace hg := Lib.hid hg
                replace hk := Lib.hid hk
                replace hp1 := Lib.hid hp1
                replace hp2 := Lib.hid hp2
                replace hj := Lib.hid hj
                replace hpre := Lib.hid hpre
                replace hKk := Lib.hid hKk
                simp only [ratV]
                gi_wp2_with fail
                refine hKk.out _ _ ((KeepB.refl _ W).alloc (fun k hk => by have := kk.out.lt; rcases hk with (h | h) | h <;> omega) _) ?_
                intro o
                have hkU := kk.out.lt
                have hne1 : gk2 ≠ U2.heap.size + 1 := by omega
                have kbX := blk_put (Blk.new W 24 #[.bool false, .string (natS N), .string (natS D)]) (show W.heap.size ≠ U2.heap.size + 1 by omega) o
                have kkX := blk_put (hk.out.alloc (.cells #[.bool false, .string (natS N), .string (natS D)] 24)) hne1 o
                have kmX := blk_put ((Blk.grown hUm.out hg.out (fun e => by injection e; omega)).alloc (.cells #[.bool false, .string (natS N), .string (natS D)] 24)) (show gm ≠ U2.heap.size + 1 by omega) o
                have kwX := blk_put ((Blk.grown hUw.out hg.out (fun e => by injection e; omega)).alloc (.cells #[.bool false, .string (natS N), .string (natS D)] 24)) (show gw ≠ U2.heap.size + 1 by omega) o
                have koX := own_put (((hUo.out.kept hg.out (.inr (fun e => by have h : gv = gk2 := (by simpa [Value.ownBlock] using e); omega)))).alloc (.cells #[.bool false, .string (natS N), .string (natS D)] 24)) (r := U2.heap.size + 1) (fun e => by have h : gv = U2.heap.size + 1 := (by simpa [Value.ownBlock] using e); omega) o
                have hGX : U2.grownBy ((W.alloc (.cells #[.bool false, .string (natS N), .string (natS D)] 24)).putObj (U2.heap.size + 1) o) (some gk2) := gb_out (hi := U2.heap.size + 2) hg.out (((OutB.refl _ _ W).alloc _).put (by omega) (by omega) o)
                have hXs : ((W.alloc (.cells #[.bool false, .string (natS N), .string (natS D)] 24)).putObj (U2.heap.size + 1) o).heap.size = W.heap.size + 1 := by simp
                generalize hxx : (W.alloc (.cells #[.bool false, .string (natS N), .string (natS D)] 24)).putObj (U2.heap.size + 1) o = X at kbX kkX kmX kwX koX hGX hXs ⊢
                generalize hgg : W.heap.size = gb at *
                clear hxx hgg hg hk hKk
                have hjK : j < K := by rw [hK.out]; omega
                obtain ⟨s0, s1⟩ := angC_get _ j _ (orbL_get (x := x) (y := y) (d := dn) hjK)
                rw [← hp2.out] at s0 s1
                have hND : N < 18446744073709551616 ∧ D < 18446744073709551616 := by have h := hmem.out j; rw [← hp2.out] at h; exact h
                have c0 : ∀ d os, (grow (redrawn X d) os).cell? ⟨gv, j * 2, none⟩ = some (.int .u64 (N : Int)) := cell_regrown (by rw [koX.cellAt _ (by omega)]; exact s0)
                have c1 : ∀ d os, (grow (redrawn X d) os).cell? ⟨gv, j * 2 + 1, none⟩ = some (.int .u64 (D : Int)) := cell_regrown (by rw [koX.cellAt _ (by omega)]; exact s1)
                have b0 : ∀ d os, (grow (redrawn X d) os).cell? ⟨gb, 0, none⟩ = some (.bool false) := cell_regrown (Blk.cell kbX 0)
                have b1 : ∀ d os, (grow (redrawn X d) os).cell? ⟨gb, 1, none⟩ = some (.string (natS N)) := cell_regrown (Blk.cell kbX 1)
                have b2 : ∀ d os, (grow (redrawn X d) os).cell? ⟨gb, 2, none⟩ = some (.string (natS D)) := cell_regrown (Blk.cell kbX 2)
                have k0 : ∀ d os, (grow (redrawn X d) os).cell? ⟨gk2, 0, none⟩ = some (.int .i64 (j : Int)) := cell_regrown (Blk.cell kkX 0)
                have w0 : ∀ d os, (grow (redrawn X d) os).cell? ⟨gw, 0, none⟩ = some (.slice (some ⟨gv, 0, none⟩) K capv) := cell_regrown (Blk.cell kwX 0)
                have cc : ∀ d os, Calls Try.prog 24 #[.agg #[.int .u64 (N : Int), .int .u64 (D : Int)]] (grow (redrawn X d) os) fun e w'' => e = .returned (.agg #[.bool false, .string (natS N), .string (natS D)]) ∧ ∃ p : Regrown, w'' = grow (redrawn X p.d) p.os :=
                  fun d os => Calls.regrown_of (rratio_any N D _ hND.1 hND.2)
                replace kkX := Lib.hid kkX
                replace kmX := Lib.hid kmX
                replace hGX := Lib.hid hGX
                replace hmem := Lib.hid hmem
                clear kbX kwX koX s0 s1
                have hjKI : (j : Int) < (K : Int) := by omega
                have hj0I : (0 : Int) ≤ (j : Int) := by omega
                have hXlt : gb < X.heap.size := by omega
                gi_wp2_with fail
                refine wpIn_region_quiet_round (by kernel_rfl) (by kernel_rfl) (by kernel_rfl) ?_
                iterate 10 (quiet_step (fail))
                quiet_step (exact cc _ _)
                iterate 2 (quiet_step (fail))
                refine wpQuiet_nil ?_
                intro Y hw'
                have hb : Below X.heap.size X Y := by
                  obtain ⟨p, rfl⟩ := hw'
                  exact below_regrown X p.d p.os
                clear hw' cc c0 c1 b0 b1 b2 k0 w0
                have hlen : (pre ++ [(N, D)]).length = j + 1 := by rw [List.length_append, ← hj.out]; rfl
                have kkY := Blk.below kkX.out hb
                have kmY := (Blk.below kmX.out hb).far (p := ⟨gk2, 0, none⟩) (by simp; omega) (.int .i64 ((j : Int) + 1))
                have hGY := gb_set (gb_trans hGX.out (grown_below hb)) 0 (.int .i64 ((j : Int) + 1))
                have kkZ : Blk (Y.setCell ⟨gk2, 0, none⟩ (.int .i64 ((j : Int) + 1))) gk2 3 #[.int .i64 (((pre ++ [(N, D)]).length : Nat) : Int)] := by
                  rw [hlen]
                  push_cast
                  exact kkY.set_ 0 _
                have hKp : KeepB (fun k => (k = gA ∨ k = gD) ∨ U2.heap.size ≤ k ∧ k < U2.heap.size + 2 + m) X (Y.setCell ⟨gk2, 0, none⟩ (.int .i64 ((j : Int) + 1))) :=
                  ((KeepB.refl _ X).below hb (fun k hk => by rcases hk with (h | h) | h <;> omega)).setCell (p := ⟨gk2, 0, none⟩) (fun hk => by simp only at hk; omega) _
                have y0 : Y.cell? ⟨gk2, 0, none⟩ = some (.int .i64 (j : Int)) := kkY.cell 0
                have y1 := kkY.frozen 0
                have y2 : (Y.setCell ⟨gk2, 0, none⟩ (.int .i64 ((j : Int) + 1))).cell? ⟨gm, 0, none⟩ = some (.int .i64 (M : Int)) := kmY.cell 0
                replace hlen := Lib.hid hlen
                replace kkZ := Lib.hid kkZ
                replace hKp := Lib.hid hKp
                replace hGY := Lib.hid hGY
                clear kkY kmY hb
                have hjM : (j : Int) ≤ 4000 := by omega
                by_cases hjl : j + 1 = M
                · have hb2 : ((j : Int) + 1 == (M : Int)) = true := by simp; omega
                  have hlM : Hid ((pre ++ [(N, D)]).length = M) := Lib.hid (by rw [hlen.out]; exact hjl)
                  clear hjl
                  gi_wp2_with fail
                  exact ⟨hKp.out, rfl, hGY.out, kkZ.out, hlM.out⟩
                · have hb2 : ((j : Int) + 1 == (M : Int)) = false := by simp; omega
                  have hlM : Hid ((pre ++ [(N, D)]).length < M) := Lib.hid (by rw [hlen.out]; omega)
                  clear hjl
                  gi_wp2_with fail
                  exact ⟨hKp.out, hGY.out, kkZ.out, hlM.out⟩
            case h2 =>
              rintro W ⟨hG, hk, hal2, hDf⟩
              have hPW := gb_new hPU hG (by have := hgg.out; omega)
              have hgP := hgg.out
              have krW := Blk.grown kr.out hPW (fun e => by cases e)
              have kmW := Blk.grown km.out hPW (fun e => by cases e)
              have kwW := Blk.grown kw.out hPW (fun e => by cases e)
              have hAW := Blk.grown hA.out hPW (fun e => by cases e)
              have hDW := Blk.grown hD.out hPW (fun e => by cases e)
              have howW := hownA.out.kept hPW (.inr (by simp [Value.ownBlock]))
              have hBWW := hBW.out.grown hPW hBW.out.size (fun k hk => by cases hk)
              have hrl := kr.out.lt
              have hDl3 : P2.heap.size < U2.heap.size := by have := kk.lt; omega
              have hDr2 : w.heap.size + 1 ≠ U2.heap.size := by omega
              have hDw2 : w.heap.size ≤ U2.heap.size := by omega
              generalize hde : U2.heap.size = D2 at hDf hDl3 hDr2 hDw2 ⊢
              have k0 : W.cell? ⟨gk2, 0, none⟩ = some (.int .i64 (K : Int)) := hk.cell 0
              have w0 : W.cell? ⟨gw, 0, none⟩ = some (.slice (some ⟨gv, 0, none⟩) K capv) := kwW.cell 0
              have m0 : W.cell? ⟨gm, 0, none⟩ = some (.int .i64 (M : Int)) := kmW.cell 0
              have hDf2 := Lib.hid hDf
              have hDlt : D1 < P2.heap.size := (Array.getElem?_eq_some_iff.1 hDf1.out).1
              have hne12 : D1 ≠ D2 := by omega
              replace hDf1 := Lib.hid ((hPW.block D1 hDlt (by simp)).trans hDf1.out)
              replace krW := Lib.hid krW
              replace kmW := Lib.hid kmW
              replace kwW := Lib.hid kwW
              replace hAW := Lib.hid hAW
              replace hDW := Lib.hid hDW
              replace howW := Lib.hid howW
              replace hBWW := Lib.hid hBWW
              replace hal2 := Lib.hid hal2
              clear hde hDf hG hk hPW kk hUA hUD hUm hUw hUo hPU hgg hgP kr km kw hA hD hownA hBW hAl hDl hml hwl hvl hrl
              dsimp only
              go_upto_region 32 with fail
              obtain ⟨P3, rfl⟩ : ∃ P3 : World, P3 = W := ⟨_, rfl⟩
              go_cut [142] from 130 to 142 (fun s wx => s = .bool false ∧ P3 = wx)
              case first =>
                cases al
                · have e : K = M := hal2.out.resolve_left (by decide)
                  subst e
                  go_wp2_with fail
                  go_meet
                  case rel => exact ⟨by first | rfl | trivial, by first | rfl | trivial⟩
                · go_wp2_with fail
                  go_meet
                  case rel => exact ⟨by first | rfl | trivial, by first | rfl | trivial⟩
              case rest =>
                obtain ⟨rfl, rfl⟩ := hcut
                clear k0 w0 m0
                go_wp2_with fail
                rw [rounds_succ]
                have r0 : P3.cell? ⟨w.heap.size + 1, 0, none⟩ = some (.bool false) := krW.out.cell 0
                have r1 := krW.out.frozen 0
                have hk1 := put_set (p := ⟨w.heap.size + 1, 0, none⟩) hDf1.out (by simp; omega) (.bool true)
                have hk2 := put_set (p := ⟨w.heap.size + 1, 0, none⟩) hDf2.out (by simp; omega) (.bool true)
                have krZ := blk_put (blk_put (krW.out.set_ 0 (.bool true)) hDr2 (.deferred none)) hDr (.deferred none)
                have hBZ := below_put (below_put (hBWW.out.setCell (p := ⟨w.heap.size + 1, 0, none⟩) (by simp) (.bool true)) hDw2 (.deferred none)) hDw (.deferred none)
                have q0 := krZ.cell 0
                replace hk1 := Lib.hid hk1
                replace hk2 := Lib.hid hk2
                replace hBZ := Lib.hid hBZ
                replace q0 := Lib.hid q0
                clear krW kmW kwW hAW hDW howW hBWW hal2 krZ
                go_wp2_with fail
                have q1 := q0.out
                refine leaves_two hk2.out hk1.out hne12 (v := .bool true) (by simp [results, Try.results5, go_sem, q1]) ⟨rfl, hBZ.out⟩
end Go.Proofs.Ytciafmnideihjaa
