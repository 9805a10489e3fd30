/- Package itin: Lowest, At, Rho, Address. -/
import Derived.Test.YtbddlbhanpjdnaaDoorItK
namespace Go.Proofs.YtbddlbhanpjdnaaDoor
open Go.RowKit Go.Sort

/-- Two slices that read as a row's lists. -/
def Itn (w : World) (a b : Value) (P Q : List Nat) : Prop :=
  (∃ A n c T, a = .slice A n c ∧ Rd .u8 T w a P) ∧ (∃ A n c T, b = .slice A n c ∧ Rd .u8 T w b Q) ∧ (∀ x, x ∈ P → x < 256) ∧ (∀ x, x ∈ Q → x < 256) ∧ P.length ≤ 140737488351232 ∧ Q.length ≤ 140737488351232
section
variable {w w' : World} {a b : Value} {P Q : List Nat}
theorem Itn.keep (h : Itn w a b P Q) (hk : ∀ T v l, Rd .u8 T w v l → Rd .u8 T w' v l) : Itn w' a b P Q := by
  obtain ⟨⟨A, n, c, T, e, h1⟩, ⟨A2, n2, c2, T2, e2, h2⟩, h3⟩ := h
  exact ⟨⟨A, n, c, T, e, hk _ _ _ h1⟩, ⟨A2, n2, c2, T2, e2, hk _ _ _ h2⟩, h3⟩
theorem Itn.below (h : Itn w a b P Q) (hb : Below w.heap.size w w') : Itn w' a b P Q := h.keep fun _ _ _ h => h.below hb
theorem Itn.alloc (h : Itn w a b P Q) (o : Obj) : Itn (w.alloc o) a b P Q := h.keep fun _ _ _ h => h.alloc o
theorem Itn.drewN (h : Itn w a b P Q) (n : Nat) : Itn (w.drewN n) a b P Q := h.keep fun _ _ _ h => h.drewN n
theorem Itn.of_pc {B : Nat} {v1 v2 : Value} (h1 : Pc w B v1 P) (h2 : Pc w B v2 Q) (hm : mayI P Q = true) : Itn w v1 v2 P Q := by
  obtain ⟨-, m2, m3, m4⟩ := mayI_spec hm
  obtain ⟨h1, A1, rfl⟩ := h1
  obtain ⟨h2, A2, rfl⟩ := h2
  have hs : ∀ x, symB x = true → x < 256 := fun x h => by simp [symB] at h; omega
  exact ⟨⟨_, _, _, _, rfl, h1.rd⟩, ⟨_, _, _, _, rfl, h2.rd⟩, fun x hx => hs x (m3 x hx), fun x hx => hs x (m4 x hx), by omega, by omega⟩
end

set_option maxRecDepth 100000 in
set_option maxHeartbeats 1000000 in
/-- itin.Lowest -/
theorem iLowest_any (a b : Value) (P Q : List Nat) (w : World) (h : Itn w a b P Q) (PP QQ : List Nat) (hPP : PP = if mayI P Q then lowP P Q else []) (hQQ : QQ = if mayI P Q then lowQ P Q else []) :
    Calls Tryd.prog 24 #[.agg #[a, b]] w (RetRowE PP QQ (chkE P Q) w) := by
  obtain ⟨⟨A1, n1, c1, T1, rfl, h1⟩, ⟨A2, n2, c2, T2, rfl, h2⟩, s1, s2, l1, l2⟩ := h
  obtain ⟨r, hr⟩ : ∃ r, r = chkE P Q := ⟨_, rfl⟩
  have hBW : Below w.heap.size w ((w.alloc (.cells #[.slice A1 n1 c1, .slice A2 n2 c2] 28)).alloc (.cells #[.slice none 0 0, .slice none 0 0] 28)) := ((Below.refl _ w).alloc (Nat.le_refl _) _).alloc (by simp) _
  have k0 := (Blk.new w 28 #[.slice A1 n1 c1, .slice A2 n2 c2]).alloc (.cells #[.slice none 0 0, .slice none 0 0] 28)
  have k1 := Blk.new (w.alloc (.cells #[.slice A1 n1 c1, .slice A2 n2 c2] 28)) 28 #[.slice none 0 0, .slice none 0 0]
  rw [show (w.alloc (.cells #[.slice A1 n1 c1, .slice A2 n2 c2] 28)).heap.size = w.heap.size + 1 by simp] at k1
  have q1 := (h1.alloc (.cells #[.slice A1 n1 c1, .slice A2 n2 c2] 28)).alloc (.cells #[.slice none 0 0, .slice none 0 0] 28)
  have q2 := (h2.alloc (.cells #[.slice A1 n1 c1, .slice A2 n2 c2] 28)).alloc (.cells #[.slice none 0 0, .slice none 0 0] 28)
  have hC := fun W h1 h2 => iCheck_any (T1 := T1) (T2 := T2) A1 A2 n1 c1 n2 c2 P Q W h1 h2 s1 s2 l1 l2
  rw [← hr] at hC ⊢
  have hl : mayI P Q = true → ∀ W h1 h2, Calls Tryd.prog 45 #[.agg #[.slice A1 n1 c1, .slice A2 n2 c2]] W (RetPQ PP QQ W) := fun hm W h1 h2 => by
    rw [hPP, hQQ, if_pos hm, if_pos hm]
    obtain ⟨m1, m2, -, -⟩ := mayI_spec hm
    exact lowest_row (T1 := T1) (T2 := T2) A1 A2 n1 c1 n2 c2 P Q W h1 h2 m1 (by omega) (by omega)
  have hno : mayI P Q = false → PP = [] ∧ QQ = [] := fun hm => by rw [hPP, hQQ, hm]; exact ⟨rfl, rfl⟩
  replace hBW := Lib.hid hBW
  replace k0 := Lib.hid k0
  replace k1 := Lib.hid k1
  replace q1 := Lib.hid q1
  replace q2 := Lib.hid q2
  replace hC := Lib.hid hC
  replace hl := Lib.hid hl
  replace hno := Lib.hid hno
  replace hr := Lib.hid hr
  clear h1 h2 s1 s2 l1 l2 hPP hQQ
  go_enter Tryd.func24, Tryd.ntmps24
  go_wp2_with fail
  refine (hC.out _ q1.out q2.out).mono ?_
  rintro en v1 ⟨rfl, hb⟩
  have hB1 := Lib.hid (hBW.out.trans (hb.mono (by simp; omega)))
  have j0 := Lib.hid (Blk.below k0.out hb)
  have j1 := Lib.hid (Blk.below k1.out hb)
  have p1 := Lib.hid (q1.out.below hb)
  have p2 := Lib.hid (q2.out.below hb)
  have a0 : v1.cell? ⟨w.heap.size, 0, none⟩ = some (.slice A1 n1 c1) := j0.out.cell 0
  have a1 : v1.cell? ⟨w.heap.size, 1, none⟩ = some (.slice A2 n2 c2) := j0.out.cell 1
  have b0 : v1.cell? ⟨w.heap.size + 1, 0, none⟩ = some (.slice none 0 0) := j1.out.cell 0
  have b1 : v1.cell? ⟨w.heap.size + 1, 1, none⟩ = some (.slice none 0 0) := j1.out.cell 1
  have f0 := j1.out.frozen 0
  have f1 := j1.out.frozen 1
  clear hb hBW k0 k1 q1 q2 hC
  cases hm : mayI P Q
  · obtain ⟨rfl, rfl⟩ := hno.out hm
    obtain rfl : r = 220 := by rw [hr.out]; exact mayI_no hm
    have K2 := Lib.hid (Blk.set_ (Blk.set_ j1.out 0 (.slice none 0 0)) 1 (.slice none 0 0))
    have hB2 := Lib.hid ((hB1.out.setCell (p := ⟨w.heap.size + 1, 0, none⟩) (by simp) (.slice none 0 0)).setCell (p := ⟨w.heap.size + 1, 1, none⟩) (by simp) (.slice none 0 0))
    clear hm hl hno hr
    go_wp2_with fail
    have q0 := K2.out.cell 0
    have q1 := K2.out.cell 1
    refine bodyPost_ret (v := .tuple #[.agg #[.slice none 0 0, .slice none 0 0], .int .i64 220]) (by simp [results, Tryd.results24, go_sem, q0, q1]) rfl (retRowE_nil rfl rfl hB2.out)
  · have hl2 := Lib.hid (hl.out hm)
    obtain rfl : r = 0 := by rw [hr.out]; exact mayI_yes hm
    clear hl hno hr hm b0 b1 f0 f1
    go_wp2_with fail
    refine (hl2.out _ p1.out p2.out).mono ?_
    rintro en v2 ⟨o1, o2, rfl, ⟨g1, B1, ho1⟩, ⟨g2, B2, ho2⟩, hb⟩
    subst ho1 ho2
    have i1 := Blk.below j1.out hb
    have b0 : v2.cell? ⟨w.heap.size + 1, 0, none⟩ = some (.slice none 0 0) := i1.cell 0
    have b1 : v2.cell? ⟨w.heap.size + 1, 1, none⟩ = some (.slice none 0 0) := i1.cell 1
    have f0 := i1.frozen 0
    have f1 := i1.frozen 1
    have hB2 := hB1.out.trans (hb.mono hB1.out.size)
    have hsz := j1.out.lt
    have KZ := Lib.hid (Blk.set_ (Blk.set_ i1 0 (.slice B1 PP.length PP.length)) 1 (.slice B2 QQ.length QQ.length))
    have hBZ := Lib.hid ((hB2.setCell (p := ⟨w.heap.size + 1, 0, none⟩) (by simp) (.slice B1 PP.length PP.length)).setCell (p := ⟨w.heap.size + 1, 1, none⟩) (by simp) (.slice B2 QQ.length QQ.length))
    replace hsz := Lib.hid hsz
    replace g1 := Lib.hid g1
    replace g2 := Lib.hid g2
    clear hb i1 hB2 hl2 a0 a1
    go_wp2_with fail
    have q0 := KZ.out.cell 0
    have q1 := KZ.out.cell 1
    refine bodyPost_ret (v := .tuple #[.agg #[.slice B1 PP.length PP.length, .slice B2 QQ.length QQ.length], .int .i64 0]) (by simp [results, Tryd.results24, go_sem, q0, q1]) rfl ?_
    refine ⟨_, _, rfl, ⟨(g1.out.keep (fun b hb1 hb2 => ?_)).le (by have := hB1.out.size; omega), B1, rfl⟩, ⟨(g2.out.keep (fun b hb1 hb2 => ?_)).le (by have := hB1.out.size; omega), B2, rfl⟩, hBZ.out⟩ <;>
      exact (Below.heap_setCell _ _ _ _ (by have := hsz.out; simp; omega)).trans (Below.heap_setCell _ _ _ _ (by have := hsz.out; simp; omega))

/-- What At tells. -/
def atE (P Q : List Nat) (n : Int) : Int := if mayI P Q then (if n < 0 then 2 else 0) else 220
def atV (P Q : List Nat) (n : Int) : Value := .tuple #[.int .u8 (if atE P Q n = 0 then ((rowAt P Q n.toNat : Nat) : Int) else 0), .int .i64 (atE P Q n)]
theorem rowAt_mod {P Q : List Nat} {n : Nat} (h : P.length ≤ n) : rowAt P Q n = rowAt P Q (P.length + (n - P.length) % Q.length) := by
  have h1 : ¬ n < P.length := by omega
  have h2 : ¬ P.length + (n - P.length) % Q.length < P.length := by omega
  simp only [rowAt, h1, h2, if_false]
  rw [Nat.add_sub_cancel_left, Nat.mod_mod]

/-- What Rho tells. -/
def rhoE (P Q : List Nat) (n : Int) : Int := if mayI P Q then (if 1 ≤ n ∧ n ≤ 4096 then 0 else 2) else 220
def rhoV (P Q : List Nat) (n : Int) : Value :=
  if rhoE P Q n = 0 then .tuple #[.int .i64 ((rhoN P Q n.toNat : Nat) : Int), .bool (decide (0 < rhoN P Q n.toNat)), .int .i64 0] else .tuple #[.int .i64 0, .bool false, .int .i64 (rhoE P Q n)]
theorem rhoF_le (P Q : List Nat) (n : Nat) : ∀ f i, rhoF P Q n f i ≤ i + f + n
  | 0, i => by simp [rhoF]
  | f + 1, i => by
    unfold rhoF
    split
    · omega
    · have := rhoF_le P Q n f (i + 1); omega
theorem rhoN_le (P Q : List Nat) (n : Nat) : rhoN P Q n ≤ P.length + Q.length + n := by have := rhoF_le P Q n (P.length + Q.length) 0; unfold rhoN; omega

/-- The address: the numbers, and whether they are all. -/
def adrF (P Q : List Nat) (most : Nat) : Nat → Nat → List Nat → List Nat × Bool
  | 0, _, acc => (acc, true)
  | f + 1, n, acc => if n = 0 then (acc, true) else if 4096 < n ∨ acc.length = most then (acc, false) else adrF P Q most f (rhoN P Q n) (acc ++ [n])
def adr (P Q : List Nat) (most : Nat) : List Nat × Bool := adrF P Q most (most + 1) 1 []
def adrR (P Q : List Nat) (most : Int) : List Nat × Bool := if rhoE P Q most = 0 then adr P Q most.toNat else ([], false)
theorem adrF_end {P Q : List Nat} {most f : Nat} {acc : List Nat} (h : 0 < f) : adrF P Q most f 0 acc = (acc, true) := by
  cases f with
  | zero => omega
  | succ f => simp [adrF]
theorem adrF_stop {P Q : List Nat} {most f n : Nat} {acc : List Nat} (h : 0 < f) (hn : n ≠ 0) (h2 : 4096 < n ∨ acc.length = most) : adrF P Q most f n acc = (acc, false) := by
  cases f with
  | zero => omega
  | succ f => simp only [adrF, if_neg hn, if_pos h2]
theorem adrF_step {P Q : List Nat} {most f n : Nat} {acc : List Nat} (hn : n ≠ 0) (h2 : ¬ (4096 < n ∨ acc.length = most)) : adrF P Q most (f + 1) n acc = adrF P Q most f (rhoN P Q n) (acc ++ [n]) := by
  simp only [adrF, if_neg hn, if_neg h2]
theorem rhoE_cases {P Q : List Nat} {n : Int} : (rhoE P Q n = 220 ∧ mayI P Q = false) ∨ (rhoE P Q n = 2 ∧ mayI P Q = true ∧ ¬ (1 ≤ n ∧ n ≤ 4096)) ∨ (rhoE P Q n = 0 ∧ mayI P Q = true ∧ 1 ≤ n ∧ n ≤ 4096) := by
  unfold rhoE
  cases h : mayI P Q
  · exact .inl ⟨rfl, rfl⟩
  · by_cases h2 : 1 ≤ n ∧ n ≤ 4096
    · exact .inr (.inr ⟨by simp [h2], rfl, h2⟩)
    · exact .inr (.inl ⟨by simp [h2], rfl, h2⟩)

def RetAdr (l : List Nat) (al : Bool) (E : Int) (w : World) (e : Ending) (w' : World) : Prop :=
  ∃ v, e = .returned (.tuple #[v, .bool al, .int .i64 E]) ∧ w'.ownsRow w.heap.size 3 1 v l.length (ivs .i64 l) ∧ Below w.heap.size w w'

set_option maxRecDepth 100000 in
set_option maxHeartbeats 1000000 in
/-- itin.Address -/
theorem iAddress_any (a b : Value) (P Q : List Nat) (most : Int) (w : World) (h : Itn w a b P Q) (E : Int) (hE : E = rhoE P Q most) (l : List Nat) (al : Bool) (hl : adrR P Q most = (l, al)) :
    Calls Tryd.prog 16 #[.agg #[a, b], .int .i64 most] w (RetAdr l al E w) := by
  obtain ⟨i0, hi, hz0, hz1, hz2⟩ := info_parts info_int
  have hItn := h
  obtain ⟨⟨A1, n1, c1, T1, rfl, h1⟩, ⟨A2, n2, c2, T2, rfl, h2⟩, s1, s2, l1, l2⟩ := h
  obtain ⟨r, hr⟩ : ∃ r, r = chkE P Q := ⟨_, rfl⟩
  have hBW : Below w.heap.size w (w.alloc (.cells #[.slice A1 n1 c1, .slice A2 n2 c2] 28)) := (Below.refl _ w).alloc (Nat.le_refl _) _
  have k0 := Blk.new w 28 #[.slice A1 n1 c1, .slice A2 n2 c2]
  have q1 := h1.alloc (.cells #[.slice A1 n1 c1, .slice A2 n2 c2] 28)
  have q2 := h2.alloc (.cells #[.slice A1 n1 c1, .slice A2 n2 c2] 28)
  have hC := fun W h1 h2 => iCheck_any (T1 := T1) (T2 := T2) A1 A2 n1 c1 n2 c2 P Q W h1 h2 s1 s2 l1 l2
  rw [← hr] at hC
  have hrho : mayI P Q = true → ∀ (n : Nat) W, n ≤ 1000000 → Rd .u8 T1 W (.slice A1 n1 c1) P → Rd .u8 T2 W (.slice A2 n2 c2) Q → Calls Tryd.prog 41 #[.agg #[.slice A1 n1 c1, .slice A2 n2 c2], .int .i64 (n : Int)] W (RetVal (.int .i64 ((rhoN P Q n : Nat) : Int)) W) := fun hm n W hn h1 h2 => by
    obtain ⟨m1, m2, -, -⟩ := mayI_spec hm
    exact irho_any (T1 := T1) (T2 := T2) A1 A2 n1 c1 n2 c2 n P Q W h1 h2 m1 m2 hn
  replace hBW := Lib.hid hBW
  replace k0 := Lib.hid k0
  replace q1 := Lib.hid q1
  replace q2 := Lib.hid q2
  replace hC := Lib.hid hC
  replace hrho := Lib.hid hrho
  replace hr := Lib.hid hr
  replace hE := Lib.hid hE
  replace hl := Lib.hid hl
  have hR1 := Lib.hid h1
  have hR2 := Lib.hid h2
  clear h1 h2 s1 s2 l1 l2 hItn
  go_enter Tryd.func16, Tryd.ntmps16
  go_wp2_with fail
  refine (hC.out _ q1.out q2.out).mono ?_
  rintro en v1 ⟨rfl, hb⟩
  have hB1 := Lib.hid (hBW.out.trans (hb.mono (by simp)))
  have j0 := Lib.hid (Blk.below k0.out hb)
  clear hb hBW k0 q1 q2 hC
  rcases rhoE_cases (P := P) (Q := Q) (n := most) with ⟨e1, e2⟩ | ⟨e1, e2, e3⟩ | ⟨e1, e2, e3, e4⟩
  · obtain rfl : r = 220 := by rw [hr.out]; exact mayI_no e2
    have hv : Hid (E = 220 ∧ l = [] ∧ al = false) := Lib.hid (by
      have := hl.out
      rw [adrR, if_neg (by rw [e1]; decide)] at this
      rw [hE.out]
      exact ⟨e1, (Prod.mk.inj this).1.symm, (Prod.mk.inj this).2.symm⟩)
    clear e1 e2 hl hE hr hrho
    go_wp2_with fail
    go_ret3
    refine ⟨_, by rw [hv.out.1, hv.out.2.2]; rfl, ?_, hB1.out⟩
    rw [hv.out.2.1]
    exact World.ownsRow_nil _ _ _ _
  · obtain rfl : r = 0 := by rw [hr.out]; exact mayI_yes e2
    have hv : Hid (E = 2 ∧ l = [] ∧ al = false) := Lib.hid (by
      have := hl.out
      rw [adrR, if_neg (by rw [e1]; decide)] at this
      rw [hE.out]
      exact ⟨e1, (Prod.mk.inj this).1.symm, (Prod.mk.inj this).2.symm⟩)
    clear e1 e2 hl hE hr hrho
    by_cases q1 : most < 1
    · clear e3
      go_wp2_with fail
      go_ret3
      refine ⟨_, by rw [hv.out.1, hv.out.2.2]; rfl, ?_, hB1.out⟩
      rw [hv.out.2.1]
      exact World.ownsRow_nil _ _ _ _
    · have q2 : 4096 < most := by omega
      clear e3
      go_wp2_with fail
      go_ret3
      refine ⟨_, by rw [hv.out.1, hv.out.2.2]; rfl, ?_, hB1.out⟩
      rw [hv.out.2.1]
      exact World.ownsRow_nil _ _ _ _
  · obtain rfl : r = 0 := by rw [hr.out]; exact mayI_yes e2
    obtain ⟨m, rfl⟩ : ∃ m : Nat, most = (m : Int) := ⟨most.toNat, by omega⟩
    obtain rfl : E = 0 := by rw [hE.out]; exact e1
    have hst : Hid (adrF P Q m (m + 1 - 0) 1 [] = (l, al)) := Lib.hid (by have := hl.out; rwa [adrR, if_pos e1, Int.toNat_natCast] at this)
    have hrho2 := Lib.hid (hrho.out e2)
    have hln : Hid (P.length + Q.length ≤ 4096) := Lib.hid (mayI_spec e2).2.1
    have q1 : ¬ (m : Int) < 1 := by omega
    have q2 : ¬ 4096 < (m : Int) := by omega
    have hm4 : m ≤ 4096 := by omega
    clear e1 e2 e3 e4 hl hE hr hrho
    go_wp2_with fail
    go_loopw [8, 9] (fun ov nv wr => ∃ (n : Nat) (acc : List Nat), nv = .int .i64 (n : Int) ∧ adrF P Q m (m + 1 - acc.length) n acc = (l, al) ∧ acc.length ≤ m ∧ n ≤ 9000 ∧ wr.ownsRow (w.heap.size + 1) 3 1 ov acc.length (ivs .i64 acc) ∧ Blk wr w.heap.size 28 #[.slice A1 n1 c1, .slice A2 n2 c2] ∧ Below w.heap.size w wr) (fun ov _ _ => m + 1 - lenV ov)
    case atStart => exact ⟨1, [], rfl, hst.out, Nat.zero_le _, by omega, World.ownsRow_nil _ _ _ _, j0.out, hB1.out⟩
    case round =>
      obtain ⟨n, acc, rfl, hrun, hacc, hn9, hown, jb, hBr⟩ := hrel
      obtain ⟨Ao, co, rfl⟩ : ∃ A c, u8 = .slice A acc.length c := by
        rcases own_forms hown with ⟨e, e2⟩ | ⟨g, c, e⟩
        · exact ⟨none, 0, by rw [e, e2]⟩
        · exact ⟨_, _, e⟩
      obtain ⟨k, hk⟩ : ∃ k, k = acc.length := ⟨_, rfl⟩
      rw [← hk] at hown hacc hrun ⊢
      replace hrun := Lib.hid hrun
      replace hown := Lib.hid hown
      replace hBr := Lib.hid hBr
      replace hk := Lib.hid hk
      by_cases h0 : n = 0
      · subst h0
        have hv : Hid (l = acc ∧ al = true) := Lib.hid (by
          have := hrun.out
          rw [adrF_end (by omega)] at this
          exact ⟨(Prod.mk.inj this).1.symm, (Prod.mk.inj this).2.symm⟩)
        go_wp2_with fail
        go_ret3
        refine ⟨_, by rw [hv.out.2]; rfl, ?_, hBr.out⟩
        rw [hv.out.1, ← hk.out]
        exact own_le hown.out (by omega)
      · have h0I : (0 : Int) < (n : Int) := by omega
        by_cases h1 : 4096 < n
        · have h1I : (4096 : Int) < (n : Int) := by omega
          have hv : Hid (l = acc ∧ al = false) := Lib.hid (by
            have := hrun.out
            rw [adrF_stop (by omega) h0 (.inl h1)] at this
            exact ⟨(Prod.mk.inj this).1.symm, (Prod.mk.inj this).2.symm⟩)
          go_wp2_with fail
          go_ret3
          refine ⟨_, by rw [hv.out.2]; rfl, ?_, hBr.out⟩
          rw [hv.out.1, ← hk.out]
          exact own_le hown.out (by omega)
        · have h1I : ¬ (4096 : Int) < (n : Int) := by omega
          by_cases h2 : k = m
          · have hv : Hid (l = acc ∧ al = false) := Lib.hid (by
              have := hrun.out
              rw [adrF_stop (by omega) h0 (.inr (by rw [← hk.out]; exact h2))] at this
              exact ⟨(Prod.mk.inj this).1.symm, (Prod.mk.inj this).2.symm⟩)
            subst h2
            go_wp2_with fail
            go_ret3
            refine ⟨_, by rw [hv.out.2]; rfl, ?_, hBr.out⟩
            rw [hv.out.1, ← hk.out]
            exact own_le hown.out (by omega)
          · have h2I : ¬ (k : Int) = (m : Int) := by omega
            have hnx : Hid (adrF P Q m (m + 1 - (k + 1)) (rhoN P Q n) (acc ++ [n]) = (l, al)) := Lib.hid (by
              have := hrun.out
              rw [show m + 1 - k = (m + 1 - (k + 1)) + 1 by omega, adrF_step h0 (by rw [← hk.out]; omega)] at this
              exact this)
            obtain ⟨wo, rfl⟩ : ∃ wo : World, wo = wr := ⟨_, rfl⟩
            clear hrun
            go_wp2_with (at_builtin; refine wpList_append_own _ rfl _ _ 36 rfl (w.heap.size + 1) 3 i0 (.int .i64 0) 1 8 Tryd.underlying36 hi hz0 hz1 hz2 rfl (by decide) _ _ _ rfl (hown.out.alloc _) ⟨wo.heap.size, 0, none⟩ 1 1 [.int .i64 (n : Int)] rfl rfl ?d1 ?d2 ?d3 ?d4 ?d5 ?_)
            case d2 => rfl
            case d3 => unfold maxLen; omega
            case d4 => omega
            case d5 => have := jb.lt; simp; omega
            intro v' w3 hown' hgrow _
            have hB3 : Below w.heap.size w w3 := (hBr.out.alloc hBr.out.size _).grown hgrow (by have := hBr.out.size; simp; omega) (fun k hk => by have := (hown.out.lt k hk).1; omega)
            have jb3 : Blk w3 w.heap.size 28 #[.slice A1 n1 c1, .slice A2 n2 c2] := Blk.grown (jb.alloc _) hgrow (fun e => by have := (hown.out.lt _ e.symm).1; omega)
            have r1 := Lib.hid (hR1.out.below hB3)
            have r2 := Lib.hid (hR2.out.below hB3)
            have c0 : w3.cell? ⟨w.heap.size, 0, none⟩ = some (.slice A1 n1 c1) := jb3.cell 0
            have c1 : w3.cell? ⟨w.heap.size, 1, none⟩ = some (.slice A2 n2 c2) := jb3.cell 1
            replace hown' := Lib.hid hown'
            replace hB3 := Lib.hid hB3
            replace jb3 := Lib.hid jb3
            clear hgrow hown jb hBr
            go_wp2_with fail
            refine (hrho2.out n _ (by omega) r1.out r2.out).mono ?_
            rintro en w4 ⟨rfl, hb⟩
            have hown4 := Lib.hid (own_below hown'.out hb)
            have jb4 := Lib.hid (Blk.below jb3.out hb)
            have hB4 := Lib.hid (hB3.out.trans (hb.mono hB3.out.size))
            have hr9 := rhoN_le P Q n
            have hln2 := hln.out
            have hk2 : Hid ((acc ++ [n]).length = k + 1) := Lib.hid (by rw [List.length_append, ← hk.out]; rfl)
            obtain ⟨nn, hnn⟩ : ∃ nn, nn = rhoN P Q n := ⟨_, rfl⟩
            rw [← hnn] at hr9 hnx ⊢
            replace hnn := Lib.hid hnn
            clear hb hown' jb3 r1 r2 hB3 c0 c1
            go_wp2_with fail
            go_roundw
            case rel => exact ⟨nn, acc ++ [n], rfl, by rw [hk2.out]; exact hnx.out, by rw [hk2.out]; omega, by omega, by rw [hk2.out, ivs_append]; exact hown4.out, jb4.out, hB4.out⟩
            case measure =>
              have hv : lenV v' = k + 1 := by
                rcases own_forms hown4.out with ⟨e, e2⟩ | ⟨g, c, e⟩
                · rw [e, e2]; rfl
                · rw [e]; rfl
              show m + 1 - lenV v' < m + 1 - lenV (.slice Ao k co)
              rw [hv]
              show m + 1 - (k + 1) < m + 1 - k
              omega
end Go.Proofs.YtbddlbhanpjdnaaDoor
