/- lang: what a reader holds; on, unwanted. -/
import Derived.Test.YtnaadajcehfmiaaGreatDoorLrA
namespace Go.Proofs.YtnaadajcehfmiaaGreatDoor
open Go.RowKit Go.Sort Go.Maps

def encN (n : Nod) : List Value := [.int .u8 (n.kind : Int), .string (mkS n.text), .int .i64 (n.a : Int), .int .i64 (n.b : Int), .int .i64 (n.n : Int)]
def encL (l : List Nat × Nat) : List Value := [.string (mkS l.1), .int .i64 (l.2 : Int)]
def encH (h : Nat) : List Value := [.int .i64 (h : Int)]
/-- The map holds these names, each as true, and no other. -/
structure NamesD (D : DataW Unit) (ks : List (List Nat)) : Prop where
  isMap : IsMap D
  get : ∀ t : List Nat, (∀ b, b ∈ t → b < 256) → D.atKey (.string (mkS t).data.toList) (.lit (.bool false)) = .lit (.bool (decide (t ∈ ks)))
/-- Bytes. -/
def Byt (l : List Nat) : Prop := ∀ b, b ∈ l → b < 256
/-- The plain facts of a text that is being read. -/
structure PSok (s : ByteArray) (last : Nat) (wrong : Bool) (nx : Nat) (st : PS) : Prop where
  size : s.size ≤ 16384
  lx : st.T ≠ [] → nx ≤ s.size ∧ Lx (sl s) nx st.T.tail last wrong
  toks : ∀ t, t ∈ st.T → t.text ≠ [] ∧ t.text.length ≤ 16384 ∧ Byt t.text ∧ t.at_ ≤ 16384
  last : last ≤ 16384
  len : st.H.length = st.N.length
  max : st.N.length ≤ 4096
  hs : ∀ h, h ∈ st.H → h ≤ 64
  lets : st.L.length ≤ 16385
  nams : ∀ t, t ∈ st.names → Byt t
/-- A variable that holds an error. -/
def itErr (g : Nat) : It where
  own := some g
  P w := ∃ ev, w.cell? ⟨g, 0, none⟩ = some ev ∧ (ev = .nilIface ∨ ∃ te pe, ev = .iface te pe)
  keep h hg hne := by
    obtain ⟨ev, h1, h2⟩ := h
    refine ⟨ev, hg.cell h1 ?_, h2⟩
    rcases hne with h | h
    · cases h
    · exact h
  lt h hk := by
    obtain ⟨ev, h1, h2⟩ := h
    injection hk with hk
    rw [← hk]
    exact block_lt_of_cell h1
/-- What a reader holds. -/
def RdS (s : ByteArray) (last : Nat) (wrong : Bool) (B p gm : Nat) (X : List It) (o : Nat) (st : PS) (w : World) : Prop :=
  ∃ (nx : Nat) (vN vL vH : Value) (D : DataW Unit),
    Sep w ([itBlk p 42 (rdC s (st.pl last) (mkS st.tx) (st.T.isEmpty && wrong) nx o vN vL vH gm), itRow B 52 5 vN st.N.length (st.N.flatMap encN), itRow B 54 2 vL st.L.length (st.L.flatMap encL), itRow B 3 1 vH st.H.length (st.H.flatMap encH), itMap Tryz.prog 9 (plainElem Tryz.prog 4) gm st.L.length D, itErr 4, itErr 5] ++ X)
      ∧ NamesD D st.names ∧ PSok s last wrong nx st ∧ B ≤ p ∧ B ≤ gm
theorem byt_sl (s : ByteArray) : Byt (sl s) := sl_lt s
theorem byt_cut {s : ByteArray} {i k : Nat} : Byt (cutL (sl s) i k) := fun b hb => sl_lt s b (List.mem_of_mem_drop (List.mem_of_mem_take hb))
theorem extract_cut (s : ByteArray) (i k : Nat) : s.extract i k = mkS (cutL (sl s) i k) := by
  apply ByteArray.ext
  apply Array.ext'
  rw [mkS_data, cutL, ByteArray.data_extract, Array.toList_extract, sl, ← List.map_drop, ← List.map_take, List.map_map]
  rw [List.map_congr_left (g := id) (fun x hx => by simp), List.map_id]
theorem Lx.head {s : ByteArray} {nx fr nx' last : Nat} {tk : ByteArray} {bd wrong : Bool} {T : List Tok} (hx : Lx (sl s) nx T last wrong) (ho : OnR s nx fr tk bd nx') (N : List Nod) (H : List Nat) (L : List (List Nat × Nat)) :
    fr = (PS.mk T N H L).pl last ∧ tk = mkS (PS.mk T N H L).tx ∧ bd = (T.isEmpty && wrong) ∧ (T ≠ [] → nx' ≤ s.size ∧ Lx (sl s) nx' T.tail last wrong) := by
  obtain ⟨h1, h2, h3⟩ := ho
  cases hx with
  | done h =>
    rw [h] at h1
    subst h1
    rcases h3 with ⟨rfl, h4, rfl⟩ | ⟨-, h4, -⟩
    · refine ⟨rfl, ?_, rfl, fun h => absurd rfl h⟩
      unfold tokT at h4
      rw [List.getElem?_eq_none (Nat.le_refl _)] at h4
      injection h4 with h4
      rw [extract_cut]
      unfold cutL PS.tx
      rw [← h4, Nat.sub_self, List.take_zero]
    · unfold tokT at h4
      rw [List.getElem?_eq_none (Nat.le_refl _)] at h4
      cases h4
  | bad h ht =>
    subst h1
    rcases h3 with ⟨-, h4, -⟩ | ⟨rfl, h4, rfl⟩
    · rw [ht] at h4; cases h4
    · exact ⟨rfl, rfl, rfl, fun h => absurd rfl h⟩
  | tok h ht hn =>
    subst h1
    rcases h3 with ⟨rfl, h4, rfl⟩ | ⟨-, h4, -⟩
    · rw [ht] at h4
      injection h4 with h4
      subst h4
      refine ⟨rfl, extract_cut _ _ _, rfl, fun _ => ⟨h2, hn⟩⟩
    · rw [ht] at h4; cases h4
theorem PSok.on {s : ByteArray} {last nx fr nx' : Nat} {tk : ByteArray} {bd wrong : Bool} {st : PS} (h : PSok s last wrong nx st) (hne : st.T ≠ []) (ho : OnR s nx fr tk bd nx') :
    fr = st.on.pl last ∧ tk = mkS st.on.tx ∧ bd = (st.on.T.isEmpty && wrong) ∧ PSok s last wrong nx' st.on := by
  obtain ⟨h1, h2, h3, h4⟩ := Lx.head (h.lx hne).2 ho st.N st.H st.L
  refine ⟨h1, h2, h3, ⟨h.size, h4, fun t ht => h.toks t (List.mem_of_mem_tail ht), h.last, h.len, h.max, h.hs, h.lets, h.nams⟩⟩

section
variable {s : ByteArray} {last : Nat} {wrong : Bool} {B p gm o : Nat} {X : List It} {st : PS} {w w' : World}
theorem RdS.below (h : RdS s last wrong B p gm X o st w) (hb : Below w.heap.size w w') : RdS s last wrong B p gm X o st w' := by
  obtain ⟨nx, vN, vL, vH, D, h1, h2⟩ := h
  exact ⟨nx, vN, vL, vH, D, h1.below hb, h2⟩
theorem RdS.alloc (h : RdS s last wrong B p gm X o st w) (ob : Obj) : RdS s last wrong B p gm X o st (w.alloc ob) := by
  obtain ⟨nx, vN, vL, vH, D, h1, h2⟩ := h
  exact ⟨nx, vN, vL, vH, D, h1.alloc ob, h2⟩
theorem RdS.blk (h : RdS s last wrong B p gm X o st w) : ∃ nx vN vL vH, Blk w p 42 (rdC s (st.pl last) (mkS st.tx) (st.T.isEmpty && wrong) nx o vN vL vH gm) := by
  obtain ⟨nx, vN, vL, vH, D, h1, h2⟩ := h
  exact ⟨nx, vN, vL, vH, h1.1 _ (List.mem_cons_self ..)⟩
theorem RdS.lt (h : RdS s last wrong B p gm X o st w) : p < w.heap.size ∧ B ≤ w.heap.size := by
  obtain ⟨nx, vN, vL, vH, D, h1, h2, h3, h4, h5⟩ := h
  have := Blk.lt (show Blk w p 42 _ from h1.1 _ (List.mem_cons_self ..))
  omega
theorem RdS.token (h : RdS s last wrong B p gm X o st w) : w.cell? ⟨p, 2, none⟩ = some (.string (mkS st.tx)) := by
  obtain ⟨nx, vN, vL, vH, h⟩ := h.blk
  exact h.cell 2
theorem RdS.from_ (h : RdS s last wrong B p gm X o st w) : w.cell? ⟨p, 1, none⟩ = some (.int .i64 (st.pl last : Int)) := by
  obtain ⟨nx, vN, vL, vH, h⟩ := h.blk
  exact h.cell 1
theorem RdS.open_ (h : RdS s last wrong B p gm X o st w) : w.cell? ⟨p, 5, none⟩ = some (.int .i64 (o : Int)) ∧ w.frozen? ⟨p, 5, none⟩ = false := by
  obtain ⟨nx, vN, vL, vH, h⟩ := h.blk
  exact ⟨h.cell 5, h.frozen 5⟩
/-- on -/
theorem onS (h : RdS s last wrong B p gm X o st w) (hne : st.T ≠ []) :
    Calls Tryz.prog 10 #[.pointer (some ⟨p, 0, none⟩)] w (fun e w' => e = .returned (.tuple #[]) ∧ RdS s last wrong B p gm X o st.on w' ∧ Below B w w') := by
  have hlt := h.lt
  obtain ⟨nx, vN, vL, vH, D, h1, h2, h3, h4, h5⟩ := h
  have hk : Blk w p 42 (rdC s (st.pl last) (mkS st.tx) (st.T.isEmpty && wrong) nx o vN vL vH gm) := h1.1 _ (List.mem_cons_self ..)
  refine (on_any p s (st.pl last) (mkS st.tx) (st.T.isEmpty && wrong) nx o vN vL vH gm w (by have := h3.size; omega) (h3.lx hne).1 hk).mono ?_
  rintro e w' ⟨rfl, fr', tk', bd', nx', hO, hK, hg⟩
  obtain ⟨e1, e2, e3, h6⟩ := h3.on hne hO
  refine ⟨rfl, ⟨nx', vN, vL, vH, D, ?_, h2, h6, h4, h5⟩, ?_⟩
  · rw [e1, e2, e3] at hK
    exact Sep.upd (A := []) h1 hg hK (fun k hk => .inl hk)
  · exact ⟨hg.os, hg.tape, hg.output, hg.size, fun k hk => hg.block k (by omega) (fun e => by injection e with e; omega)⟩
/-- unwanted -/
theorem unwS (h : RdS s last wrong B p gm X o st w) {α : Type} {a c : Nat} (hu : (unwP last wrong st : PR α) = .no a c) :
    Calls Tryz.prog 22 #[.pointer (some ⟨p, 0, none⟩)] w (PanF B a c w) := by
  have hlt := h.lt
  obtain ⟨nx, vN, vL, vH, hk⟩ := h.blk
  have h0 := unwanted_any B p s _ _ _ nx o vN vL vH gm w hlt.2 hk
  have e : a = st.pl last ∧ c = (if (st.T.isEmpty && wrong) = true then 110 else 111) := by
    unfold unwP at hu
    unfold PS.pl
    rcases hT : st.T with _ | ⟨t, T⟩
    · rw [hT] at hu
      injection hu with e1 e2
      exact ⟨e1.symm, by rw [← e2]; rfl⟩
    · rw [hT] at hu
      injection hu with e1 e2
      exact ⟨e1.symm, e2.symm⟩
  rw [e.1, e.2]
  exact h0
end
end Go.Proofs.YtnaadajcehfmiaaGreatDoor
