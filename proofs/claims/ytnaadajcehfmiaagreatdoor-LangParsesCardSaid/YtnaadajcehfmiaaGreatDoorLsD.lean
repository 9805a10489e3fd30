/- lang.read, Check, Print. -/
import Derived.Test.YtnaadajcehfmiaaGreatDoorLpD
import Derived.Test.YtnaadajcehfmiaaGreatDoorLsB
import Derived.Test.YtnaadajcehfmiaaGreatDoorLsC
import Derived.Test.YtnaadajcehfmiaaGreatDoorLrM
namespace Go.Proofs.YtnaadajcehfmiaaGreatDoor
open Go.RowKit Go.Sort Go.Maps

/-! The tokens, reckoned. -/
def lexF : Nat → List Nat → Nat → List Tok × Nat × Bool
  | 0, s, _ => ([], s.length, false)
  | f + 1, s, i =>
    if skipT false s i < s.length then
      match tokT s (skipT false s i) with
      | none => ([], skipT false s i, true)
      | some k => (⟨skipT false s i, cutL s (skipT false s i) k⟩ :: (lexF f s k).1, (lexF f s k).2)
    else ([], s.length, false)
theorem lexF_lx {s : List Nat} : ∀ (f i : Nat), i ≤ s.length → s.length - i < f → Lx s i (lexF f s i).1 (lexF f s i).2.1 (lexF f s i).2.2
  | 0, i, _, h => by omega
  | f + 1, i, hi, h => by
    have h1 := skipT_le (nt := false) hi
    have h2 := skipT_ge (nt := false) (s := s) (i := i)
    rw [lexF]
    by_cases hl : skipT false s i < s.length
    · rw [if_pos hl]
      rcases ht : tokT s (skipT false s i) with _ | k
      · exact .bad hl ht
      · have hb := tokT_bounds ht hl
        exact .tok hl ht (lexF_lx f k hb.2 (by omega))
    · rw [if_neg hl]
      exact .done (by omega)
/-- What a text says. -/
def parseF (s : List Nat) : PR Nat := if 16384 < s.length then .no 0 4 else (progP (lexF (s.length + 1) s 0).1 (lexF (s.length + 1) s 0).2.1 (lexF (s.length + 1) s 0).2.2).getD (.no 0 0)
theorem parseF_ok (s : List Nat) : parseT s (parseF s) := by
  unfold parseF
  by_cases h : 16384 < s.length
  · rw [if_pos h]; exact .inl ⟨h, rfl⟩
  · rw [if_neg h]
    obtain ⟨r, hr⟩ := progP_some (lexF (s.length + 1) s 0).1 (lexF (s.length + 1) s 0).2.1 (lexF (s.length + 1) s 0).2.2
    rw [hr]
    exact .inr ⟨by omega, _, _, _, lexF_lx _ 0 (Nat.zero_le _) (by omega), hr⟩
theorem parseF_prg {s : List Nat} (hs : Byt s) {m : Nat} {st : PS} (h : parseF s = .ok m st) : ∃ D x, Prg D x st.N st.L m := by
  rcases parseF_ok s with ⟨_, h1⟩ | ⟨hl, T, last, wrong, hx, hp⟩
  · rw [h1] at h; cases h
  · rw [h] at hp
    exact prg_of hs hl hx hp
def sameP (r : PR Nat) (N : List RNo) (Ls : List RLt) (m : Int) : Bool :=
  match r with
  | .ok k st => sameW N (st.N.map Nod.raw) Ls (st.L.map rawL) m k
  | .no _ _ => false
/-- May parts be? -/
def readV (N : List RNo) (Ls : List RLt) (m : Int) : Bool :=
  if shapeW N Ls m = true then
    match writeW N Ls m.toNat true with
    | none => false
    | some t => sameP (parseF t) N Ls m
  else false
/-- What is printed. -/
def printV (N : List RNo) (Ls : List RLt) (m : Int) : List Nat × Nat :=
  if readV N Ls m = true then
    match writeW N Ls m.toNat false with
    | none => ([], 4)
    | some t => (t, 0)
  else ([], 115)
/-! Parts that were read may be. -/
section
variable {D : List (List Nat × Ex)} {x : Ex} {N : List Nod} {L : List (List Nat × Nat)} {m : Nat}
theorem OkX.byt {nm : List (List Nat)} : ∀ (e : Ex) (b : Nat), OkX nm e → ∀ n, n ∈ e.flat b → Byt n.text
  | .num t, b, h, n, hn => by rw [List.mem_singleton.1 hn]; exact h.2.2.2
  | .i, b, h, n, hn => by rw [List.mem_singleton.1 hn]; exact fun c hc => (by cases hc)
  | .z, b, h, n, hn => by rw [List.mem_singleton.1 hn]; exact fun c hc => (by cases hc)
  | .name t, b, h, n, hn => by rw [List.mem_singleton.1 hn]; exact h.2.1.2.2
  | .neg e, b, h, n, hn => by
    rcases List.mem_append.1 hn with hn | hn
    · exact OkX.byt e b h n hn
    · rw [List.mem_singleton.1 hn]; exact fun c hc => (by cases hc)
  | .pow e _, b, h, n, hn => by
    rcases List.mem_append.1 hn with hn | hn
    · exact OkX.byt e b h.1 n hn
    · rw [List.mem_singleton.1 hn]; exact fun c hc => (by cases hc)
  | .bin k x y, b, h, n, hn => by
    rcases List.mem_append.1 hn with hn | hn
    · rcases List.mem_append.1 hn with hn | hn
      · exact OkX.byt x b h.2.1 n hn
      · exact OkX.byt y _ h.2.2 n hn
    · rw [List.mem_singleton.1 hn]; exact fun c hc => (by cases hc)
theorem OkD.byt {x : Ex} : ∀ (D : List (List Nat × Ex)) (nm : List (List Nat)) (b : Nat), OkD nm x D → (∀ n, n ∈ flatD D b ++ x.flat (b + sizeD D) → Byt n.text) ∧ ∀ l, l ∈ letsD D b → Byt l.1
  | [], nm, b, h => ⟨fun n hn => OkX.byt x _ h.1 n (by
      rcases List.mem_append.1 hn with hn | hn
      · cases hn
      · exact hn), fun l hl => (by cases hl)⟩
  | (n, e) :: D, nm, b, ⟨⟨o1, o2, o3, o4, o5⟩, o6⟩ => by
    have h := OkD.byt D (nm ++ [n]) (b + e.size) o6
    refine ⟨fun k hk => ?_, fun l hl => ?_⟩
    · have hk : k ∈ (e.flat b ++ flatD D (b + e.size)) ++ x.flat (b + (e.size + sizeD D)) := hk
      rw [← Nat.add_assoc, List.append_assoc] at hk
      rcases List.mem_append.1 hk with hk | hk
      · exact OkX.byt e b o4 k hk
      · exact h.1 k hk
    · rcases List.mem_cons.1 hl with rfl | hl
      · exact o2.2.2
      · exact h.2 l hl
theorem Prg.byt (h : Prg D x N L m) : BytN (N.map Nod.raw) ∧ BytL (L.map rawL) := by
  have hb := OkD.byt D [] 0 h.ok
  rw [Nat.zero_add, ← h.eN, ← h.eL] at hb
  refine ⟨fun r hr => ?_, fun r hr => ?_⟩
  · obtain ⟨n, hn, rfl⟩ := List.mem_map.1 hr
    exact hb.1 n hn
  · obtain ⟨l, hl, rfl⟩ := List.mem_map.1 hr
    exact hb.2 l hl
end
/-! What shape says. -/
structure ShF (N : List RNo) (Ls : List RLt) (m : Int) : Prop where
  n : N.length ≤ 4096
  l : Ls.length ≤ 4096
  m : ∃ k : Nat, m = (k : Int) ∧ k < N.length
  wn : WfN N
  wl : ∀ i, i < Ls.length → WfL N.length Ls[i]!
theorem ofH_not {U : List Bool} {H : List Nat} {a : Int} {i : Nat} (h : ofH U H a i ≤ 63) : ∃ k : Nat, a = (k : Int) ∧ k < i := by
  unfold ofH at h
  split at h
  · omega
  · rename_i hb
    unfold badO at hb
    exact ⟨a.toNat, by omega, by omega⟩
theorem shL_wf : ∀ (N : List RNo) (i : Nat) (U : List Bool) (H : List Nat), shL N i U H = true → BytN N → ∀ j, j < N.length → WfR (i + j) N[j]!
  | [], _, _, _, _, _, j, hj => by cases hj
  | r :: N, i, U, H, h, hb, j, hj => by
    rw [shL] at h
    by_cases hk : shK r
    · rw [if_pos hk] at h; cases h
    · rw [if_neg hk] at h
      by_cases hB : shapB (shX U H i r).1 r
      · rw [if_pos hB] at h; cases h
      · rw [if_neg hB] at h
        rcases j with _ | j
        · have e : (r :: N)[0]! = r := rfl
          rw [e, Nat.add_zero]
          unfold shK at hk
          unfold shapB at hB
          have h64 : (shX U H i r).1 ≤ 64 := by omega
          refine ⟨by omega, by omega, hb r (by simp), by omega, fun hl => ?_, fun hl => ?_, fun hn => ⟨r.n.toNat, by omega, by omega⟩⟩
          · unfold shX at h64
            rw [if_neg (by omega)] at h64
            by_cases h3 : 3 ≤ bndK r.kind
            · rw [if_pos h3] at h64
              have h64' : 1 + ofH U H r.a i ≤ 64 := h64
              exact ofH_not (U := U) (H := H) (by omega)
            · rw [if_neg h3] at h64
              have h64' : 1 + max (ofH U H r.a i) (ofH (ofU U r.a i) H r.b i) ≤ 64 := h64
              exact ofH_not (U := U) (H := H) (by omega)
          · unfold shX at h64
            rw [if_neg (by omega), if_neg (by omega)] at h64
            have h64' : 1 + max (ofH U H r.a i) (ofH (ofU U r.a i) H r.b i) ≤ 64 := h64
            exact ofH_not (U := ofU U r.a i) (H := H) (by omega)
        · have e : (r :: N)[j + 1]! = N[j]! := by
            rw [List.getElem!_eq_getElem?_getD, List.getElem!_eq_getElem?_getD, List.getElem?_cons_succ]
          rw [e]
          have := shL_wf N (i + 1) _ _ h (fun s hs => hb s (by simp [hs])) j (by simpa using hj)
          rw [show i + 1 + j = i + (j + 1) by omega] at this
          exact this
theorem ltL_wf {n : Nat} : ∀ (Ls : List RLt), ltL n Ls = true → BytL Ls → ∀ i, i < Ls.length → WfL n Ls[i]!
  | [], _, _, i, hi => by cases hi
  | l :: Ls, h, hb, i, hi => by
    rw [ltL] at h
    by_cases hk : letBad n l
    · rw [if_pos hk] at h; cases h
    · rw [if_neg hk] at h
      rcases i with _ | i
      · have e : (l :: Ls)[0]! = l := rfl
        rw [e]
        unfold letBad at hk
        exact ⟨hb l (by simp), by omega, l.at_.toNat, by omega, by omega⟩
      · have e : (l :: Ls)[i + 1]! = Ls[i]! := by
          rw [List.getElem!_eq_getElem?_getD, List.getElem!_eq_getElem?_getD, List.getElem?_cons_succ]
        rw [e]
        exact ltL_wf Ls h (fun s hs => hb s (by simp [hs])) i (by simpa using hi)
theorem shape_wf {N : List RNo} {Ls : List RLt} {m : Int} (h : shapeW N Ls m = true) (bN : BytN N) (bL : BytL Ls) : ShF N Ls m := by
  unfold shapeW at h
  by_cases hp : shapP N.length Ls.length m
  · rw [if_pos hp] at h; cases h
  · rw [if_neg hp] at h
    by_cases h1 : shL N 0 (List.replicate N.length false) (List.replicate N.length 0) = true
    · rw [if_pos h1] at h
      unfold shapP at hp
      refine ⟨by omega, by omega, ⟨m.toNat, by omega, by omega⟩, fun i hi => ?_, ltL_wf Ls h bL⟩
      have := shL_wf N 0 _ _ h1 bN i hi
      rwa [Nat.zero_add] at this
    · rw [if_neg h1] at h; cases h
/-! Parts in memory. -/
theorem NodesK.up {B B' : Nat} {W : World} {v : Value} {N : List RNo} (h : NodesK B W v N) (hb : B ≤ B') : NodesK B' W v N := by
  obtain ⟨A, c, rfl, h⟩ := h
  refine ⟨A, c, rfl, fun h0 => ?_⟩
  obtain ⟨g, o, e, hg, hc⟩ := h h0
  exact ⟨g, o, e, by omega, hc⟩
theorem LetsK.up {B B' : Nat} {W : World} {v : Value} {N : List RLt} (h : LetsK B W v N) (hb : B ≤ B') : LetsK B' W v N := by
  obtain ⟨A, c, rfl, h⟩ := h
  refine ⟨A, c, rfl, fun h0 => ?_⟩
  obtain ⟨g, o, e, hg, hc⟩ := h h0
  exact ⟨g, o, e, by omega, hc⟩
structure PrgM (w : World) (vN vL : Value) (N : List RNo) (Ls : List RLt) : Prop where
  n : NodesK w.heap.size w vN N
  l : LetsK w.heap.size w vL Ls
  bn : BytN N
  bl : BytL Ls
  zn : N.length ≤ 140737488355328
  zl : Ls.length ≤ 140737488355328
theorem PrgM.below {w w' : World} {vN vL : Value} {N : List RNo} {Ls : List RLt} (h : PrgM w vN vL N Ls) (hb : Below w.heap.size w w') : PrgM w' vN vL N Ls :=
  ⟨(h.n.below hb).up hb.size, (h.l.below hb).up hb.size, h.bn, h.bl, h.zn, h.zl⟩
theorem flat_at {α : Type} [Inhabited α] {f : α → List Value} {n : Nat} (hf : ∀ x, (f x).length = n) : ∀ (l : List α) (i j : Nat), i < l.length → j < n → (l.flatMap f)[i * n + j]? = (f l[i]!)[j]?
  | [], i, j, hi, _ => by cases hi
  | x :: l, 0, j, _, hj => by
    show (f x ++ l.flatMap f)[0 * n + j]? = (f x)[j]?
    rw [Nat.zero_mul, Nat.zero_add, List.getElem?_append_left (by rw [hf]; exact hj)]
  | x :: l, i + 1, j, hi, hj => by
    have e : (x :: l)[i + 1]! = l[i]! := by
      rw [List.getElem!_eq_getElem?_getD, List.getElem!_eq_getElem?_getD, List.getElem?_cons_succ]
    rw [e]
    show (f x ++ l.flatMap f)[(i + 1) * n + j]? = _
    have e2 : (i + 1) * n + j = n + (i * n + j) := by rw [Nat.add_mul]; omega
    rw [e2, List.getElem?_append_right (by rw [hf]; omega), hf, Nat.add_sub_cancel_left]
    exact flat_at hf l i j (by simpa using hi) hj
theorem nodesK_own {w : World} {B : Nat} {v : Value} {N : List Nod} (h : w.ownsRow B 52 5 v N.length (N.flatMap encN)) : NodesK w.heap.size w v (N.map Nod.raw) := by
  rcases h.2 with ⟨rfl, h0⟩ | ⟨g, cap, cur, rfl, hb, hg, h1, h2, h3, h4⟩
  · exact ⟨none, 0, by rw [List.length_map, h0], fun h => (by rw [List.length_map] at h; omega)⟩
  · refine ⟨some ⟨g, 0, none⟩, cap, by rw [List.length_map], fun h0 => ⟨g, 0, rfl, (Array.getElem?_eq_some_iff.1 hg).1, fun i hi j u hu => ?_⟩⟩
    rw [List.length_map] at hi
    have e0 : (N.map Nod.raw)[i]! = (N[i]'hi).raw := by
      rw [List.getElem!_eq_getElem?_getD, List.getElem?_map, List.getElem?_eq_getElem hi]; rfl
    have e1 : ∀ l : List Nod, l.flatMap encN = (l.map Nod.raw).flatMap encR := fun l => by
      rw [List.flatMap_map]; rfl
    rw [e1] at h4
    have hj : j < 5 := (List.getElem?_eq_some_iff.1 hu).1
    have e2 := flat_at (f := encR) (n := 5) (fun _ => rfl) (N.map Nod.raw) i j (by rw [List.length_map]; exact hi) hj
    rw [hu, ← h4, List.getElem?_take] at e2
    split at e2
    · rw [cell_of_row w g (0 + i * 5 + j) cur 52 (0, 0) hg, Nat.zero_add, ← Array.getElem?_toList]
      exact e2
    · cases e2
theorem letsK_own {w : World} {B : Nat} {v : Value} {N : List (List Nat × Nat)} (h : w.ownsRow B 54 2 v N.length (N.flatMap encL)) : LetsK w.heap.size w v (N.map rawL) := by
  rcases h.2 with ⟨rfl, h0⟩ | ⟨g, cap, cur, rfl, hb, hg, h1, h2, h3, h4⟩
  · exact ⟨none, 0, by rw [List.length_map, h0], fun h => (by rw [List.length_map] at h; omega)⟩
  · refine ⟨some ⟨g, 0, none⟩, cap, by rw [List.length_map], fun h0 => ⟨g, 0, rfl, (Array.getElem?_eq_some_iff.1 hg).1, fun i hi j u hu => ?_⟩⟩
    rw [List.length_map] at hi
    have e1 : ∀ l : List (List Nat × Nat), l.flatMap encL = (l.map rawL).flatMap encRL := fun l => by
      rw [List.flatMap_map]; rfl
    rw [e1] at h4
    have hj : j < 2 := (List.getElem?_eq_some_iff.1 hu).1
    have e2 := flat_at (f := encRL) (n := 2) (fun _ => rfl) (N.map rawL) i j (by rw [List.length_map]; exact hi) hj
    rw [hu, ← h4, List.getElem?_take] at e2
    split at e2
    · rw [cell_of_row w g (0 + i * 2 + j) cur 54 (0, 0) hg, Nat.zero_add, ← Array.getElem?_toList]
      exact e2
    · cases e2
/-- The variables of the library that reading and writing look at. -/
structure EnvL (w : World) : Prop where
  asT : AsT w
  e1 : (itErr 4).P w
  e2 : (itErr 5).P w
theorem EnvL.below {w w' : World} (h : EnvL w) (hb : Below w.heap.size w w') : EnvL w' :=
  ⟨h.asT.below hb, (itErr _).keep h.e1 (row := none) ⟨hb.os, hb.tape, hb.output, hb.size, fun j hj _ => hb.block j hj⟩ (.inr (fun e => (by cases e))), (itErr _).keep h.e2 (row := none) ⟨hb.os, hb.tape, hb.output, hb.size, fun j hj _ => hb.block j hj⟩ (.inr (fun e => (by cases e)))⟩
theorem sl_mkS {t : List Nat} (h : Byt t) : sl (mkS t) = t := sl_mk t h
set_option maxRecDepth 100000 in
set_option maxHeartbeats 4000000 in
/-- filigree/lang.read -/
theorem lRead_any {N : List RNo} {Ls : List RLt} {vN vL : Value} {m : Int} {w : World} (hP : PrgM w vN vL N Ls) (hE : EnvL w) :
    Calls Tryz.prog 37 #[.agg #[vN, vL, .int .i64 m]] w (fun e w' => ∃ v, e = .returned (.tuple #[v, .bool (readV N Ls m)]) ∧ Below w.heap.size w w') := by
  obtain ⟨AN, cN, hvN, -⟩ := id hP.n
  obtain ⟨AL, cL, hvL, -⟩ := id hP.l
  obtain ⟨nn, hnn⟩ : ∃ n, n = N.length := ⟨_, rfl⟩
  obtain ⟨nl, hnl⟩ : ∃ n, n = Ls.length := ⟨_, rfl⟩
  rw [← hnn] at hvN
  rw [← hnl] at hvL
  subst hvN hvL
  replace hnn := Lib.hid hnn
  replace hnl := Lib.hid hnl
  obtain ⟨RS, hRS⟩ : ∃ r, r = readV N Ls m := ⟨_, rfl⟩
  rw [← hRS]
  unfold readV at hRS
  replace hRS := Lib.hid hRS
  have kp := Lib.hid (Blk.new w 25 #[.slice AN nn cN, .slice AL nl cL, .int .i64 m])
  have hb1 := Lib.hid ((Below.refl _ w).alloc (Nat.le_refl _) (.cells #[.slice AN nn cN, .slice AL nl cL, .int .i64 m] 25))
  replace hP := Lib.hid hP
  replace hE := Lib.hid hE
  go_enter Tryz.func37, Tryz.ntmps37
  go_upto_region 1 with fail
  generalize hW : w.alloc (.cells #[.slice AN nn cN, .slice AL nl cL, .int .i64 m] 25) = w1 at hb1 kp ⊢
  replace hW := Lib.hid hW
  have c0 : w1.cell? ⟨w.heap.size, 0, none⟩ = some (.slice AN nn cN) := kp.out.cell 0
  have c1 : w1.cell? ⟨w.heap.size, 1, none⟩ = some (.slice AL nl cL) := kp.out.cell 1
  have c2 : w1.cell? ⟨w.heap.size, 2, none⟩ = some (.int .i64 m) := kp.out.cell 2
  have hP1 := Lib.hid (hP.out.below hb1.out)
  have hE1 := Lib.hid (hE.out.below hb1.out)
  go_wp2_with fail
  refine (lShape_any hP1.out.n hP1.out.l).mono ?_
  rintro en w2 ⟨vH, rfl, hb⟩
  have hb2 := Lib.hid (hb1.out.trans (hb.mono hb1.out.size))
  replace kp := Lib.hid (kp.out.below hb)
  have hP2 := Lib.hid (hP1.out.below hb)
  have hE2 := Lib.hid (hE1.out.below hb)
  clear hP1 hE1 hb c0 c1 c2
  obtain ⟨sh, hsh⟩ : ∃ b, b = shapeW N Ls m := ⟨_, rfl⟩
  rw [← hsh]
  cases sh
  case false =>
    have hRf : RS = false := by rw [hRS.out, if_neg (by rw [← hsh]; exact Bool.false_ne_true)]
    subst hRf
    replace hsh := Lib.hid hsh
    go_wp2_with fail
    go_ret2
    first | exact ⟨rfl, hb2.out⟩ | exact ⟨⟨_, rfl⟩, hb2.out⟩ | exact ⟨_, rfl, hb2.out⟩ | exact hb2.out
  case true =>
    have hF := shape_wf hsh.symm hP2.out.bn hP2.out.bl
    obtain ⟨k, rfl, hk⟩ := hF.m
    have hRS2 : Hid (RS = match writeW N Ls k true with | none => false | some t => sameP (parseF t) N Ls (k : Int)) := Lib.hid (by rw [hRS.out, if_pos hsh.symm]; rfl)
    have cW := Lib.hid (lWrite_any (m := k) (w := w2) true hF.wn hF.wl hk hF.n hF.l hP2.out.n hP2.out.l hE2.out.asT)
    clear hRS hk hF
    replace hsh := Lib.hid hsh
    have c0 : w2.cell? ⟨w.heap.size, 0, none⟩ = some (.slice AN nn cN) := kp.out.cell 0
    have c1 : w2.cell? ⟨w.heap.size, 1, none⟩ = some (.slice AL nl cL) := kp.out.cell 1
    have c2 : w2.cell? ⟨w.heap.size, 2, none⟩ = some (.int .i64 (k : Int)) := kp.out.cell 2
    obtain ⟨wr, hwr⟩ : ∃ r, r = writeW N Ls k true := ⟨_, rfl⟩
    rw [← hwr] at cW hRS2
    replace hwr := Lib.hid hwr
    go_wp2_with fail
    refine Calls.mono cW.out ?_
    rintro en w3 ⟨ss, rfl, hss, hb⟩
    have hb3 := Lib.hid (hb2.out.trans (hb.mono hb2.out.size))
    replace kp := Lib.hid (kp.out.below hb)
    have hP3 := Lib.hid (hP2.out.below hb)
    have hE3 := Lib.hid (hE2.out.below hb)
    clear hP2 hE2 hb2 hb c0 c1 c2 cW
    rcases wr with _ | t
    case none =>
      have hRf : RS = false := hRS2.out
      subst hRf
      simp only [Option.isSome]
      clear hss
      go_wp2_with fail
      go_ret2
      first | exact ⟨rfl, hb3.out⟩ | exact ⟨⟨_, rfl⟩, hb3.out⟩ | exact ⟨_, rfl, hb3.out⟩ | exact hb3.out
    case some =>
      obtain ⟨hs1, hs2, hs3⟩ := hss t rfl
      subst hs1
      simp only [Option.isSome]
      have hRS3 : Hid (RS = sameP (parseF t) N Ls (k : Int)) := Lib.hid hRS2.out
      have hpt := parseF_ok t
      obtain ⟨pr, hpr⟩ : ∃ r, r = parseF t := ⟨_, rfl⟩
      rw [← hpr] at hpt hRS3
      have hprg : ∀ k' st, pr = .ok k' st → ∃ D x, Prg D x st.N st.L k' := fun k' st h => parseF_prg hs2 (hpr.symm.trans h)
      replace hpr := Lib.hid hpr
      have cP := Lib.hid (lParse_any (mkS t) w3 (by rw [mkS_size]; omega) hE3.out.e1 hE3.out.e2 pr (by rw [sl_mkS hs2]; exact hpt))
      replace hprg := Lib.hid hprg
      clear hss hRS2 hpt
      replace hs2 := Lib.hid hs2
      replace hs3 := Lib.hid hs3
      go_wp2_with fail
      refine Calls.mono cP.out ?_
      intro en w4 hret
      clear cP
      rcases pr with ⟨k', st⟩ | ⟨a, c⟩
      case no =>
        obtain ⟨⟨q, rfl, hq1, hq2⟩, hb⟩ := hret
        have hRf : RS = false := hRS3.out
        subst hRf
        have hb4 := Lib.hid (hb3.out.trans (hb.mono hb3.out.size))
        have hb5 := Lib.hid (hb4.out.alloc hb4.out.size (.cells #[.slice none 0 0, .slice none 0 0, .int .i64 0] 25))
        replace hq2 := Lib.hid hq2
        clear hb hq1
        go_upto_region 8 with fail
        generalize hWa : w4.alloc (.cells #[.slice none 0 0, .slice none 0 0, .int .i64 0] 25) = w5 at hb5 ⊢
        replace hWa := Lib.hid hWa
        go_wp2_with fail
        go_ret2
        first | exact ⟨rfl, hb5.out⟩ | exact ⟨⟨_, rfl⟩, hb5.out⟩ | exact ⟨_, rfl, hb5.out⟩ | exact hb5.out
      case ok =>
        obtain ⟨⟨v, rfl, vN2, vL2, rfl, hS, hm9, hN9, hL9⟩, hb⟩ := hret
        obtain ⟨D, x, hG⟩ := hprg.out k' st rfl
        have hb4 := Lib.hid (hb3.out.trans (hb.mono hb3.out.size))
        have rN := hS.1 (itRow w3.heap.size 52 5 vN2 st.N.length (st.N.flatMap encN)) (by simp)
        have rL := hS.1 (itRow w3.heap.size 54 2 vL2 st.L.length (st.L.flatMap encL)) (by simp)
        have hP4 := hP3.out.below hb
        have hQ4 : PrgM w4 vN2 vL2 (st.N.map Nod.raw) (st.L.map rawL) := ⟨nodesK_own rN, letsK_own rL, hG.byt.1, hG.byt.2, by rw [List.length_map]; omega, by rw [List.length_map]; omega⟩
        obtain ⟨AN2, cN2, rfl, -, -⟩ := own_form rN
        obtain ⟨AL2, cL2, rfl, -, -⟩ := own_form rL
        obtain ⟨n2, hn2⟩ : ∃ n, n = st.N.length := ⟨_, rfl⟩
        obtain ⟨l2, hl2⟩ : ∃ n, n = st.L.length := ⟨_, rfl⟩
        rw [← hn2, ← hl2] at hQ4
        rw [← hn2, ← hl2]
        have hRf : RS = sameW N (st.N.map Nod.raw) Ls (st.L.map rawL) (k : Int) (k' : Int) := hRS3.out
        have kp4 := kp.out.below hb
        have kp5 := kp4.alloc (.cells #[.slice AN2 n2 cN2, .slice AL2 l2 cL2, .int .i64 (k' : Int)] 25)
        have kq5 := Blk.new w4 25 #[.slice AN2 n2 cN2, .slice AL2 l2 cL2, .int .i64 (k' : Int)]
        have hba := (Below.refl w4.heap.size w4).alloc (Nat.le_refl _) (.cells #[.slice AN2 n2 cN2, .slice AL2 l2 cL2, .int .i64 (k' : Int)] 25)
        have hP5 := hP4.below hba
        have hQ5 := hQ4.below hba
        have hb5 := hb4.out.alloc hb4.out.size (.cells #[.slice AN2 n2 cN2, .slice AL2 l2 cL2, .int .i64 (k' : Int)] 25)
        replace hn2 := Lib.hid hn2
        replace hl2 := Lib.hid hl2
        replace kp5 := Lib.hid kp5
        replace kq5 := Lib.hid kq5
        replace hP5 := Lib.hid hP5
        replace hQ5 := Lib.hid hQ5
        replace hb5 := Lib.hid hb5
        replace hRf := Lib.hid hRf
        clear hb hS hm9 hN9 hL9 rN rL hP4 hQ4 kp4 hba hG hprg hRS3 kp hb4 hP3 hE3 hb3
        go_upto_region 8 with fail
        generalize hWa : w4.alloc (.cells #[.slice AN2 n2 cN2, .slice AL2 l2 cL2, .int .i64 (k' : Int)] 25) = w5 at kp5 kq5 hP5 hQ5 hb5 ⊢
        generalize hqa : w4.heap.size = bq at kq5 ⊢
        replace hWa := Lib.hid hWa
        replace hqa := Lib.hid hqa
        have c0 : w5.cell? ⟨w.heap.size, 0, none⟩ = some (.slice AN nn cN) := kp5.out.cell 0
        have c1 : w5.cell? ⟨w.heap.size, 1, none⟩ = some (.slice AL nl cL) := kp5.out.cell 1
        have c2 : w5.cell? ⟨w.heap.size, 2, none⟩ = some (.int .i64 (k : Int)) := kp5.out.cell 2
        have d0 : w5.cell? ⟨bq, 0, none⟩ = some (.slice AN2 n2 cN2) := kq5.out.cell 0
        have d1 : w5.cell? ⟨bq, 1, none⟩ = some (.slice AL2 l2 cL2) := kq5.out.cell 1
        have d2 : w5.cell? ⟨bq, 2, none⟩ = some (.int .i64 (k' : Int)) := kq5.out.cell 2
        go_wp2_with fail
        refine (lSame_any hP5.out.n hP5.out.l hQ5.out.n hQ5.out.l hP5.out.bn hQ5.out.bn hP5.out.bl hQ5.out.bl hP5.out.zn hQ5.out.zn hP5.out.zl hQ5.out.zl).mono ?_
        rintro en w6 ⟨rfl, hb⟩
        have hb6 := Lib.hid (hb5.out.trans (hb.mono hb5.out.size))
        rw [← hRf.out]
        clear hRf hb c0 c1 c2 d0 d1 d2
        go_wp2_with fail
        go_ret2
        first | exact ⟨rfl, hb6.out⟩ | exact ⟨⟨_, rfl⟩, hb6.out⟩ | exact ⟨_, rfl, hb6.out⟩ | exact hb6.out
set_option maxRecDepth 100000 in
set_option maxHeartbeats 4000000 in
/-- filigree/lang.Check -/
theorem lgCheck_any {N : List RNo} {Ls : List RLt} {vN vL : Value} {m : Int} {w : World} (hP : PrgM w vN vL N Ls) (hE : EnvL w) :
    Calls Tryz.prog 19 #[.agg #[vN, vL, .int .i64 m]] w (fun e w' => e = .returned (.int .i64 (if readV N Ls m = true then 0 else 115)) ∧ Below w.heap.size w w') := by
  obtain ⟨AN, cN, hvN, -⟩ := id hP.n
  obtain ⟨AL, cL, hvL, -⟩ := id hP.l
  obtain ⟨nn, hnn⟩ : ∃ n, n = N.length := ⟨_, rfl⟩
  obtain ⟨nl, hnl⟩ : ∃ n, n = Ls.length := ⟨_, rfl⟩
  rw [← hnn] at hvN
  rw [← hnl] at hvL
  subst hvN hvL
  replace hnn := Lib.hid hnn
  replace hnl := Lib.hid hnl
  obtain ⟨RS, hRS⟩ : ∃ r, r = readV N Ls m := ⟨_, rfl⟩
  rw [← hRS]
  replace hRS := Lib.hid hRS
  have kp := Lib.hid (Blk.new w 25 #[.slice AN nn cN, .slice AL nl cL, .int .i64 m])
  have hb1 := Lib.hid ((Below.refl _ w).alloc (Nat.le_refl _) (.cells #[.slice AN nn cN, .slice AL nl cL, .int .i64 m] 25))
  replace hP := Lib.hid hP
  replace hE := Lib.hid hE
  go_enter Tryz.func19, Tryz.ntmps19
  go_upto_region 1 with fail
  generalize hW : w.alloc (.cells #[.slice AN nn cN, .slice AL nl cL, .int .i64 m] 25) = w1 at hb1 kp ⊢
  replace hW := Lib.hid hW
  have c0 : w1.cell? ⟨w.heap.size, 0, none⟩ = some (.slice AN nn cN) := kp.out.cell 0
  have c1 : w1.cell? ⟨w.heap.size, 1, none⟩ = some (.slice AL nl cL) := kp.out.cell 1
  have c2 : w1.cell? ⟨w.heap.size, 2, none⟩ = some (.int .i64 m) := kp.out.cell 2
  have hP1 := Lib.hid (hP.out.below hb1.out)
  have hE1 := Lib.hid (hE.out.below hb1.out)
  go_wp2_with fail
  refine (lRead_any hP1.out hE1.out).mono ?_
  rintro en w2 ⟨vH, rfl, hb⟩
  have hb2 := Lib.hid (hb1.out.trans (hb.mono hb1.out.size))
  clear hP1 hE1 hb c0 c1 c2
  rw [← hRS.out]
  cases RS
  case false =>
    go_wp2_with fail
    go_ret
    first | exact ⟨rfl, hb2.out⟩ | exact hb2.out
  case true =>
    go_wp2_with fail
    go_ret
    first | exact ⟨rfl, hb2.out⟩ | exact hb2.out
set_option maxRecDepth 100000 in
set_option maxHeartbeats 4000000 in
/-- filigree/lang.Print -/
theorem lPrint_any {N : List RNo} {Ls : List RLt} {vN vL : Value} {m : Int} {w : World} (hP : PrgM w vN vL N Ls) (hE : EnvL w) :
    Calls Tryz.prog 17 #[.agg #[vN, vL, .int .i64 m]] w (fun e w' => e = .returned (.tuple #[.string (mkS (printV N Ls m).1), .int .i64 ((printV N Ls m).2 : Int)]) ∧ Below w.heap.size w w') := by
  obtain ⟨AN, cN, hvN, -⟩ := id hP.n
  obtain ⟨AL, cL, hvL, -⟩ := id hP.l
  obtain ⟨nn, hnn⟩ : ∃ n, n = N.length := ⟨_, rfl⟩
  obtain ⟨nl, hnl⟩ : ∃ n, n = Ls.length := ⟨_, rfl⟩
  rw [← hnn] at hvN
  rw [← hnl] at hvL
  subst hvN hvL
  replace hnn := Lib.hid hnn
  replace hnl := Lib.hid hnl
  obtain ⟨RS, hRS⟩ : ∃ r, r = printV N Ls m := ⟨_, rfl⟩
  rw [← hRS]
  unfold printV at hRS
  replace hRS := Lib.hid hRS
  have kp := Lib.hid (Blk.new w 25 #[.slice AN nn cN, .slice AL nl cL, .int .i64 m])
  have hb1 := Lib.hid ((Below.refl _ w).alloc (Nat.le_refl _) (.cells #[.slice AN nn cN, .slice AL nl cL, .int .i64 m] 25))
  replace hP := Lib.hid hP
  replace hE := Lib.hid hE
  go_enter Tryz.func17, Tryz.ntmps17
  go_upto_region 1 with fail
  generalize hW : w.alloc (.cells #[.slice AN nn cN, .slice AL nl cL, .int .i64 m] 25) = w1 at hb1 kp ⊢
  replace hW := Lib.hid hW
  have c0 : w1.cell? ⟨w.heap.size, 0, none⟩ = some (.slice AN nn cN) := kp.out.cell 0
  have c1 : w1.cell? ⟨w.heap.size, 1, none⟩ = some (.slice AL nl cL) := kp.out.cell 1
  have c2 : w1.cell? ⟨w.heap.size, 2, none⟩ = some (.int .i64 m) := kp.out.cell 2
  have hP1 := Lib.hid (hP.out.below hb1.out)
  have hE1 := Lib.hid (hE.out.below hb1.out)
  go_wp2_with fail
  refine (lgCheck_any hP1.out hE1.out).mono ?_
  rintro en w2 ⟨rfl, hb⟩
  have hb2 := Lib.hid (hb1.out.trans (hb.mono hb1.out.size))
  replace kp := Lib.hid (kp.out.below hb)
  have hP2 := Lib.hid (hP1.out.below hb)
  have hE2 := Lib.hid (hE1.out.below hb)
  clear hP1 hE1 hb c0 c1 c2
  by_cases hr : readV N Ls m = true
  case neg =>
    rw [if_neg hr]
    have hRf : RS = ([], 115) := by rw [hRS.out, if_neg hr]
    subst hRf
    replace hr := Lib.hid hr
    go_wp2_with fail
    go_ret2
    first | exact ⟨rfl, hb2.out⟩ | exact ⟨⟨_, rfl⟩, hb2.out⟩ | exact ⟨_, rfl, hb2.out⟩ | exact hb2.out
  case pos =>
    rw [if_pos hr]
    have hsh : shapeW N Ls m = true := by
      unfold readV at hr
      split at hr
      · rename_i h; exact h
      · cases hr
    have hF := shape_wf hsh hP2.out.bn hP2.out.bl
    obtain ⟨k, rfl, hk⟩ := hF.m
    have hRS2 : Hid (RS = match writeW N Ls k false with | none => ([], 4) | some t => (t, 0)) := Lib.hid (by rw [hRS.out, if_pos hr]; rfl)
    have cW := Lib.hid (lWrite_any (m := k) (w := w2) false hF.wn hF.wl hk hF.n hF.l hP2.out.n hP2.out.l hE2.out.asT)
    clear hRS hk hF hsh
    replace hr := Lib.hid hr
    have c0 : w2.cell? ⟨w.heap.size, 0, none⟩ = some (.slice AN nn cN) := kp.out.cell 0
    have c1 : w2.cell? ⟨w.heap.size, 1, none⟩ = some (.slice AL nl cL) := kp.out.cell 1
    have c2 : w2.cell? ⟨w.heap.size, 2, none⟩ = some (.int .i64 (k : Int)) := kp.out.cell 2
    obtain ⟨wr, hwr⟩ : ∃ r, r = writeW N Ls k false := ⟨_, rfl⟩
    rw [← hwr] at cW hRS2
    replace hwr := Lib.hid hwr
    go_wp2_with fail
    refine Calls.mono cW.out ?_
    rintro en w3 ⟨ss, rfl, hss, hb⟩
    have hb3 := Lib.hid (hb2.out.trans (hb.mono hb2.out.size))
    clear hP2 hE2 hb2 hb c0 c1 c2 cW kp
    rcases wr with _ | t
    case none =>
      have hRf : RS = ([], 4) := hRS2.out
      subst hRf
      simp only [Option.isSome]
      clear hss
      go_wp2_with fail
      go_ret2
      first | exact ⟨rfl, hb3.out⟩ | exact ⟨⟨_, rfl⟩, hb3.out⟩ | exact ⟨_, rfl, hb3.out⟩ | exact hb3.out
    case some =>
      obtain ⟨hs1, hs2, hs3⟩ := hss t rfl
      subst hs1
      simp only [Option.isSome]
      have hRf : RS = (t, 0) := hRS2.out
      subst hRf
      clear hss hs2 hs3
      go_wp2_with fail
      go_ret2
      first | exact ⟨rfl, hb3.out⟩ | exact ⟨⟨_, rfl⟩, hb3.out⟩ | exact ⟨_, rfl, hb3.out⟩ | exact hb3.out
end Go.Proofs.YtnaadajcehfmiaaGreatDoor
