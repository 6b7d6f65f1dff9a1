/- Parts of the proof: YP, YHe, YR, YS. -/
import Derived.Test.YtdpnlnfpjmjgaaaGreatDoorZAG
import Derived.Test.YtdpnlnfpjmjgaaaGreatDoorZAF
import Derived.Test.YtdpnlnfpjmjgaaaGreatDoorZAC
import Derived.Test.YtdpnlnfpjmjgaaaGreatDoorZAE
section
/- The law, a list that is not short. -/
open Go Go.Vm Go.Proofs Sp
namespace Qq
noncomputable section
noncomputable def selSw (l : Ls) (n : Nat) (T : Heap) : Sel
  | [.slice (some ⟨0, 0, none⟩) m c] => some (List.range (2 * n + 1), [.slice (some ⟨0, 0, none⟩) m c], lsR l n :: T, .bool (shL l n), m = n ∧ lsIn l n T ∧ okLs l n ∧ n ≤ 9223372036854775807)
  | _ => none
theorem selSw_ok (l : Ls) (n : Nat) (T : Heap) : ∀ ar ids a0 H0 ret vc, selSw l n T ar = some (ids, a0, H0, ret, vc) → vc → SmallRes Tryz.prog 5 a0 H0 ret H0 := by
  intro ar ids a0 H0 ret vc h hv
  unfold selSw at h
  split at h
  · cases h
    obtain ⟨rfl, h1, h2, h3⟩ := hv
    exact shL_ok h1 h2 h3
  · cases h
def orcNone : Orc := fun _ _ => none
theorem okNone (f : FuncId) : Ok Tryz.prog f orcNone := by
  intro args H ret H' h
  cases h
noncomputable def cLg : CallF := ctx Tryz.prog [(4, orcTrue), (7, orcNone)]
theorem cLg_ok : CallOK Tryz.prog cLg := ctx_ok hm (all_cons okTrue (all_cons (okNone 7) all_nil))
noncomputable def hsLg (l : Ls) (n : Nat) (T : Heap) : Hs Tryz.prog where
  rn := [.stay]
  au := auCalls [(5, hCi Tryz.prog 5 (selSw l n T) (selSw_ok l n T))]
theorem lg_t (l : Ls) (x : Int) (n : Nat) (c : Nat) (T : Heap) (K : Value → Heap → Prop) :
    (fnP Tryz.prog cLg (hsLg l n T) (3 : FuncId) [Value.slice (some { block := (0 : Nat), off := (0 : Nat) }) n c, Value.int IntKind.i64 x] (lsR l n :: T) K) =
    (Is (CiOK (some (AObj.row (lsC l n) (3 : Nat) false false false) :: T) [Value.slice (some { block := (0 : Nat), off := (0 : Nat) }) n c] (List.range ((2 : Nat) * n + (1 : Nat))) [Value.slice (some { block := (0 : Nat), off := (0 : Nat) }) n c] (some (AObj.row (lsC l n) (3 : Nat) false false false) :: T) (Value.bool (shL l n)) ∧ n = n ∧ lsIn l n T ∧ okLs l n ∧ n ≤ (9223372036854775807 : Nat)) ∧ br (!shL l n) (K (Value.bool true) (some (AObj.row (lsC l n) (3 : Nat) false false false) :: T)) False) := by kernel_rfl
theorem pos_range' : ∀ (m s i : Nat), s ≤ i → i < s + m → pos (List.range' s m) i = some (i - s)
  | 0, s, i, h1, h2 => by omega
  | m + 1, s, i, h1, h2 => by
    rw [List.range'_succ, pos]
    by_cases e : s = i
    · subst e; simp
    · have : (s == i) = false := by simpa using e
      rw [this, pos_range' m (s + 1) i (by omega) (by omega)]
      simp
      omega
theorem pos_range {m i : Nat} (h : i < m) : pos (List.range m) i = some i := by
  rw [List.range_eq_range', pos_range' m 0 i (by omega) (by omega)]; rfl
theorem nodup_range' : ∀ (m s : Nat), nodupB (List.range' s m) = true
  | 0, _ => rfl
  | m + 1, s => by
    rw [List.range'_succ, nodupB, nodup_range' m (s + 1), Bool.and_true]
    cases h : (List.range' (s + 1) m).contains s
    · rfl
    · have := (List.mem_range'_1.1 (List.contains_iff_mem.1 h)).1
      omega
/-- Rows that are only read, whose names stay. -/
def still1 (m : Nat) (x : Option AObj) : Prop := ∃ o, x = some o ∧ renO (pos (List.range m)) o = o ∧ o.rw = false
theorem ci_pre {G X : Heap} (hG : ∀ x ∈ G, still1 G.length x) {ar : List Value} {ret : Value} (ha : ar.map (renV (pos (List.range G.length)) 4) = ar) (hr : atom ret = true) : CiOK (G ++ X) ar (List.range G.length) ar G ret := by
  have hg : ∀ i, i < G.length → ∃ o, rd (G ++ X) i = some o ∧ rd G i = some o ∧ G[i]? = some (some o) ∧ renO (pos (List.range G.length)) o = o ∧ o.rw = false := fun i hi => by
    obtain ⟨o, h1, h2, h3⟩ := hG _ (List.getElem_mem hi)
    have e : G[i]? = some (some o) := by rw [List.getElem?_eq_getElem hi, h1]
    refine ⟨o, ?_, ?_, e, h2, h3⟩
    · rw [rd_get, List.getElem?_append_left hi, e]; rfl
    · rw [rd_get, e]; rfl
  refine ⟨ha, ?_, ?_, ?_⟩
  · apply List.ext_getElem?
    intro i
    rw [resH, List.getElem?_map]
    by_cases h : i < G.length
    · obtain ⟨o, h1, _, h3, h4, _⟩ := hg i h
      rw [List.getElem?_range h, h3]
      show some (Option.map _ (rd (G ++ X) i)) = _
      rw [h1]
      show some (some (renO _ o)) = _
      rw [h4]
    · rw [List.getElem?_eq_none (by rw [List.length_range]; omega), List.getElem?_eq_none (by omega)]; rfl
  · rw [backOK, List.range_eq_range', nodup_range', ← List.range_eq_range']
    have a1 : (List.range G.length).all (fun id => (rd (G ++ X) id).isSome) = true := by
      rw [List.all_eq_true]
      intro i hi
      obtain ⟨o, h1, _⟩ := hg i (List.mem_range.1 hi)
      rw [h1]; rfl
    rw [a1]
    show (true && (List.range G.length).zipIdx.all _) = true
    rw [Bool.true_and, List.all_eq_true]
    intro p hp
    have hm := List.mem_range.1 (List.mem_of_getElem? (List.mem_zipIdx_iff_getElem?.1 hp))
    obtain ⟨o, h1, _, _, _, h5⟩ := hg p.1 hm
    show (match rd (G ++ X) p.1 with
      | some o => !o.rw || (match rd G p.2 with | some o' => o'.rw | none => true)
      | none => true) = true
    rw [h1]
    show (!o.rw || _) = true
    rw [h5]; rfl
  · rw [back, renV_atom hr]
    have e : (List.range G.length).zipIdx.filterMap (fun (p : Nat × Nat) => match rd (G ++ X) p.1 with
      | some o => if o.rw then some (p.1, (rd G p.2).map (renO (backρ (List.range G.length) [] (G ++ X).length))) else none
      | none => none) = [] := by
      rw [List.filterMap_eq_nil_iff]
      intro p hp
      have hm := List.mem_range.1 (List.mem_of_getElem? (List.mem_zipIdx_iff_getElem?.1 hp))
      obtain ⟨o, h1, _, _, _, h5⟩ := hg p.1 hm
      rw [h1]
      show (if o.rw = true then _ else _) = none
      rw [h5]; rfl
    show (Out.mk ret (List.filterMap _ _ ++ []) _ _) = _
    rw [List.append_nil]
    exact congrArg (fun z => Out.mk ret z (List.range G.length) []) e
theorem lsT_len (l : Ls) : ∀ n, (lsT l n).length = 2 * n
  | 0 => rfl
  | n + 1 => by
    have ih := lsT_len l n
    rw [lsT] at ih
    rw [lsT, List.range_succ, List.flatMap_append, List.length_append, ih]; rfl
theorem lsG_len (l : Ls) (n : Nat) : (lsG l n).length = 2 * n + 1 := by rw [lsG, List.length_cons, lsT_len]
theorem still_ls (l : Ls) (n : Nat) : ∀ x ∈ lsG l n, still1 (lsG l n).length x := by
  rw [lsG_len]
  intro x hx
  rw [lsG, List.mem_cons] at hx
  rcases hx with rfl | hx
  · refine ⟨_, rfl, ?_, rfl⟩
    have : (lsC l n).map (renV (pos (List.range (2 * n + 1))) 4) = lsC l n := by
      conv => rhs; rw [← List.map_id (lsC l n)]
      refine List.map_congr_left fun v hv => ?_
      rw [lsC, List.mem_flatMap] at hv
      obtain ⟨i, hi, hv⟩ := hv
      have hi := List.mem_range.1 hi
      simp only [List.mem_cons, List.not_mem_nil, or_false] at hv
      rcases hv with rfl | rfl | rfl
      · rfl
      · have e := pos_range (m := 2 * n + 1) (i := 1 + 2 * i) (by omega)
        simp [renV, atom, e]
      · have e := pos_range (m := 2 * n + 1) (i := 2 + 2 * i) (by omega)
        simp [renV, atom, e]
    show AObj.row (if false = true then _ else _) _ _ _ _ = _
    rw [if_neg (by decide), this]
  · rw [lsT, List.mem_flatMap] at hx
    obtain ⟨i, _, hx⟩ := hx
    simp only [List.mem_cons, List.not_mem_nil, or_false] at hx
    rcases hx with rfl | rfl
    · exact ⟨_, rfl, rfl, rfl⟩
    · exact ⟨_, rfl, rfl, rfl⟩
theorem ls_arg (l : Ls) (n m c : Nat) : [Value.slice (some ⟨0, 0, none⟩) m c].map (renV (pos (List.range (lsG l n).length)) 4) = [.slice (some ⟨0, 0, none⟩) m c] := by
  rw [lsG_len]
  have e := pos_range (m := 2 * n + 1) (i := 0) (by omega)
  simp [renV, atom, e]
theorem lw_gen {l : Ls} {n c : Nat} {x : Int} (hs : okLs l n) (h9 : n ≤ 9223372036854775807) (hsh : shL l n = false) : SmallRes Tryz.prog 3 [.slice (some ⟨0, 0, none⟩) n c, .int .i64 x] (lsG l n) (.bool true) (lsG l n) := by
  refine fnP_res hm cLg_ok (hs := hsLg l n (lsT l n)) ?_
  show fnP Tryz.prog cLg (hsLg l n (lsT l n)) 3 _ (lsR l n :: lsT l n) _
  rw [lg_t]
  have hc := ci_pre (X := []) (still_ls l n) (ls_arg l n n c) (ret := .bool (shL l n)) rfl
  rw [List.append_nil, lsG_len] at hc
  refine ⟨⟨hc, rfl, lsIn_nil l n, hs, h9⟩, ?_⟩
  rw [hsh]
  exact ⟨rfl, rfl⟩
end
end Qq
end
section
/- The list of 33 sections. -/
open Go Go.Vm Go.Proofs Sp
namespace Qq
noncomputable section
noncomputable def hsLj : Hs Tryz.prog where
  rn := [.stay]
  nl _ := [.stay]
  au := auCalls [(44, hCa Tryz.prog 44 orcOwnG okOwnG)]
/-- What each round leaves behind. -/
def jkR (l : Ls) (i : Nat) : Heap := [some (.row [.string (l.nm i), .slice (some ⟨1 + 2 * i, 0, none⟩) (l.N i) big, .slice (some ⟨2 + 2 * i, 0, none⟩) (l.K i) big] 0 false true false),
  some (.row (ints (l.zs i)) 2 true true true), some (.row (acs (l.ks i)) 2 true true true),
  some (.row [.string (l.nm i), .slice (some ⟨68 + 5 * i, 0, none⟩) (l.N i) 0, .slice (some ⟨69 + 5 * i, 0, none⟩) (l.K i) 0] 3 false true false)]
def jkC (l : Ls) (n : Nat) : List Value := (List.range n).flatMap fun i => [.string (l.nm i), .slice (some ⟨68 + 5 * i, 0, none⟩) (l.N i) 0, .slice (some ⟨69 + 5 * i, 0, none⟩) (l.K i) 0]
def jkH (l : Ls) : Heap := ((List.range 32).flatMap fun i => jkR l i ++ [none]) ++ (jkR l 32 ++ [some (.row (jkC l 33) 3 true true false)])
def chn (l : Ls) : Nat → Nat → Prop → Prop
  | _, 0, P => P
  | i, m + 1, P => Is (secIs (l.N i) (l.K i) (ints (l.zs i)) (acs (l.ks i))) ∧ chn l (i + 1) m P
theorem li33_t (l : Ls) (c : Nat) (K : Value → Heap → Prop) : fnP Tryz.prog c0 hsLj 7 [.slice (some ⟨0, 0, none⟩) 33 c] (lsG l 33) K = chn l 0 33 (K (.slice (some ⟨231, 0, none⟩) 33 0) (lsG l 33 ++ jkH l)) := by kernel_rfl
end
end Qq
end
section
/- The law for 33 sections: what it calls, and its tree. -/
open Go Go.Vm Go.Proofs Sp
namespace Qq
noncomputable section
/-- The list of the sections, as it comes back: its cells are told no further. -/
def ids33 : List Nat := List.range 67 ++ [231]
def lsQ (l : Ls) : List Value := (jkC l 33).map (renV (pos ids33) 4)
theorem chn_of {l : Ls} {P : Prop} (hl : okLt l 33) (hP : P) : ∀ (m i : Nat), i + m = 33 → chn l i m P
  | 0, _, _ => hP
  | m + 1, i, h => ⟨⟨in_of i hl (by omega)⟩, chn_of hl hP m (i + 1) (by omega)⟩
theorem li33_ok {l : Ls} {c : Nat} (hl : okLt l 33) : SmallRes Tryz.prog 7 [.slice (some ⟨0, 0, none⟩) 33 c] (lsG l 33) (.slice (some ⟨231, 0, none⟩) 33 0) (lsG l 33 ++ jkH l) := by
  refine fnP_res hm c0_ok (hs := hsLj) ?_
  show fnP Tryz.prog c0 hsLj 7 _ _ _
  rw [li33_t]
  exact chn_of hl ⟨rfl, rfl⟩ 33 0 rfl
noncomputable def hsRj : Hs Tryz.prog where
  rn := [.stay]
  au := au0 Tryz.prog
theorem rk33_t (x : Int) (C : List Value) (K : Value → Heap → Prop) :
    (fnP Tryz.prog c0 hsRj (6 : FuncId) [Value.slice (some { block := (0 : Nat), off := (0 : Nat) }) (33 : Nat) (0 : Nat), Value.int IntKind.i64 x] [some (AObj.row C (3 : Nat) true true false)] K) =
    (K (Value.tuple #[Value.slice none (0 : Nat) (0 : Nat), Value.int IntKind.i64 (5 : Int)]) (some (AObj.row C (3 : Nat) true true false) :: noH)) := by kernel_rfl
theorem rk33_ok (x : Int) (C : List Value) : SmallRes Tryz.prog 6 [.slice (some ⟨0, 0, none⟩) 33 0, .int .i64 x] [some (.row C 3 true true false)] (.tuple #[.slice none 0 0, .int .i64 5]) [some (.row C 3 true true false)] := by
  refine fnP_res hm c0_ok (hs := hsRj) ?_
  show fnP Tryz.prog c0 hsRj 6 _ _ _
  rw [rk33_t]
  exact ⟨rfl, rfl⟩
theorem nuN_t (e : Int) (b : Int) (K : Value → Heap → Prop) :
    (fnP Tryz.prog c0 hsRj (12 : FuncId) [Value.slice none (0 : Nat) (0 : Nat), Value.int IntKind.i64 e, Value.int IntKind.i64 b, Value.slice none (0 : Nat) (0 : Nat)] [] K) =
    (br (e == b) (br (b != (0 : Int)) (K (Value.bool true) noH) (br (b == (0 : Int)) (K (Value.bool true) noH) (K (Value.bool false) noH))) (K (Value.bool false) noH)) := by kernel_rfl
noncomputable def orcNuN : OrcV
  | [.slice none 0 0, .int .i64 e, .int .i64 b, .slice none 0 0], [] => some (.bool true, [], e = b ∧ b ≠ 0)
  | _, _ => none
theorem okNuN : OkV Tryz.prog 12 orcNuN := by
  intro args H ret H' vc h hv
  unfold orcNuN at h
  split at h
  · cases h
    obtain ⟨rfl, hb⟩ := hv
    refine fnP_res hm c0_ok (hs := hsRj) ?_
    show fnP Tryz.prog c0 hsRj 12 _ _ _
    rw [nuN_t]
    refine br_of (fun _ => br_of (fun _ => ⟨rfl, rfl⟩) (fun h => ?_)) (fun h => ?_)
    · simp [hb] at h
    · simp at h
  · cases h
def lsQ1 (l : Ls) : List Value := (lsQ l).map (renV (backρ (List.range 67) [67] 67) 4)
def lsQ2 (l : Ls) : List Value := (lsQ1 l).map (renV (pos [67]) 4)
def lsQ3 (l : Ls) : List Value := (lsQ2 l).map (renV (backρ [67] [] 68) 4)
theorem li33_q {l : Ls} {c : Nat} (hl : okLt l 33) : SmallRes Tryz.prog 7 [.slice (some ⟨0, 0, none⟩) 33 c] (lsG l 33) (.slice (some ⟨67, 0, none⟩) 33 0) (lsG l 33 ++ [some (.row (lsQ l) 3 true true false)]) := by
  have h := SmallRes.pick (ids := ids33) (li33_ok (c := c) hl) (by kernel_rfl) (fun j hj => by
    rw [lsG_len] at hj
    rw [ids33, List.getElem?_append_left (by rw [List.length_range]; exact hj), List.getElem?_range hj])
  have e1 : renV (pos ids33) 4 (.slice (some ⟨231, 0, none⟩) 33 0) = .slice (some ⟨67, 0, none⟩) 33 0 := by kernel_rfl
  have e2 : resH (lsG l 33 ++ jkH l) ids33 = lsG l 33 ++ [some (.row (lsQ l) 3 true true false)] := by kernel_rfl
  rw [e1, e2] at h
  exact h
noncomputable def selS33 (l : Ls) : Sel
  | [.slice (some ⟨0, 0, none⟩) m c] => some (List.range 67, [.slice (some ⟨0, 0, none⟩) m c], lsG l 33, .bool true, m = 33 ∧ okLs l 33 ∧ shL l 33 = true)
  | _ => none
theorem selS33_ok (l : Ls) : ∀ ar ids a0 H0 ret vc, selS33 l ar = some (ids, a0, H0, ret, vc) → vc → SmallRes Tryz.prog 5 a0 H0 ret H0 := by
  intro ar ids a0 H0 ret vc h hv
  unfold selS33 at h
  split at h
  · cases h
    obtain ⟨rfl, h1, h2⟩ := hv
    have := shL_ok (c := ‹Nat›) (lsIn_nil l 33) h1 (by decide)
    rw [h2] at this
    exact this
  · cases h
noncomputable def selC33 (l : Ls) : Sel
  | [.slice (some ⟨0, 0, none⟩) m c] => some (List.range 67, [.slice (some ⟨0, 0, none⟩) m c], lsG l 33, .int .i64 5, m = 33 ∧ okLt l 33)
  | _ => none
theorem selC33_ok (l : Ls) : ∀ ar ids a0 H0 ret vc, selC33 l ar = some (ids, a0, H0, ret, vc) → vc → SmallRes Tryz.prog 9 a0 H0 ret H0 := by
  intro ar ids a0 H0 ret vc h hv
  unfold selC33 at h
  split at h
  · cases h
    obtain ⟨rfl, h1⟩ := hv
    have := cs_ok (c := ‹Nat›) (lsIn_nil l 33) h1
    have e : csE l 33 = 5 := by rw [csE]; exact if_pos (by decide)
    rw [e] at this
    exact this
  · cases h
noncomputable def selL33 (l : Ls) : List Value → Option SelR
  | [.slice (some ⟨0, 0, none⟩) m c] => some ⟨List.range 67, [67], [.slice (some ⟨0, 0, none⟩) m c], lsG l 33, .slice (some ⟨67, 0, none⟩) 33 0, lsG l 33 ++ [some (.row (lsQ l) 3 true true false)], ⟨.slice (some ⟨67, 0, none⟩) 33 0, [(67, some (.row (lsQ1 l) 3 true true false))], List.range 67, [67]⟩, m = 33 ∧ okLt l 33⟩
  | _ => none
theorem selL33_ok (l : Ls) : ∀ ar r, selL33 l ar = some r → r.vc → SmallRes Tryz.prog 7 r.a0 r.H0 r.ret r.H' := by
  intro ar r h hv
  unfold selL33 at h
  split at h
  · cases h
    obtain ⟨rfl, h1⟩ := hv
    exact li33_q h1
  · cases h
noncomputable def selK33 (l : Ls) : List Value → Option SelR
  | [.slice (some ⟨67, 0, none⟩) m c, .int .i64 y] => some ⟨[67], [], [.slice (some ⟨0, 0, none⟩) m c, .int .i64 y], [some (.row (lsQ2 l) 3 true true false)], .tuple #[.slice none 0 0, .int .i64 5], [some (.row (lsQ2 l) 3 true true false)], ⟨.tuple #[.slice none 0 0, .int .i64 5], [(67, some (.row (lsQ3 l) 3 true true false))], [67], []⟩, m = 33 ∧ c = 0⟩
  | _ => none
theorem selK33_ok (l : Ls) : ∀ ar r, selK33 l ar = some r → r.vc → SmallRes Tryz.prog 6 r.a0 r.H0 r.ret r.H' := by
  intro ar r h hv
  unfold selK33 at h
  split at h
  · cases h
    obtain ⟨rfl, rfl⟩ := hv
    exact rk33_ok _ _
  · cases h
noncomputable def cL33 : CallF := ctx Tryz.prog [(4, orcTrue), (10, orcDay), (8, orcFirst), (11, orcNone)]
theorem cL33_ok : CallOK Tryz.prog cL33 := ctx_ok hm (all_cons okTrue (all_cons okIdxR (all_cons okFirstR (all_cons (okNone 11) all_nil))))
noncomputable def hsL33 (l : Ls) : Hs Tryz.prog where
  rn := [.stay]
  au := auCalls [(5, hCi Tryz.prog 5 (selS33 l) (selS33_ok l)), (7, hCo Tryz.prog 7 (selL33 l) (selL33_ok l)), (6, hCo Tryz.prog 6 (selK33 l) (selK33_ok l)), (9, hCi Tryz.prog 9 (selC33 l) (selC33_ok l)), (12, hCa Tryz.prog 12 orcNuN okNuN)]
end
end Qq
end
section
/- The law for 33 sections. -/
open Go Go.Vm Go.Proofs Sp
namespace Qq
noncomputable section
abbrev arg33 (c : Nat) : List Value := [.slice (some ⟨0, 0, none⟩) 33 c]
abbrev rowQ (C : List Value) : Option AObj := some (.row C 3 true true false)
theorem lw33_t (l : Ls) (x : Int) (c : Nat) (K : Value → Heap → Prop) :
    fnP Tryz.prog cL33 (hsL33 l) 3 [.slice (some ⟨0, 0, none⟩) 33 c, .int .i64 x] (lsG l 33) K =
    (Is (CiOK (lsG l 33) (arg33 c) (List.range 67) (arg33 c) (lsG l 33) (.bool true) ∧ 33 = 33 ∧ okLs l 33 ∧ shL l 33 = true) ∧
      Is (CoOK (lsG l 33) (arg33 c) (List.range 67) [67] (arg33 c) (lsG l 33) (.slice (some ⟨67, 0, none⟩) 33 0) (lsG l 33 ++ [rowQ (lsQ l)]) ⟨.slice (some ⟨67, 0, none⟩) 33 0, [(67, rowQ (lsQ1 l))], List.range 67, [67]⟩ ∧ 33 = 33 ∧ okLt l 33) ∧
      Is (CoOK (lsG l 33 ++ [rowQ (lsQ1 l)]) [.slice (some ⟨67, 0, none⟩) 33 0, .int .i64 x] [67] [] [.slice (some ⟨0, 0, none⟩) 33 0, .int .i64 x] [rowQ (lsQ2 l)] (.tuple #[.slice none 0 0, .int .i64 5]) [rowQ (lsQ2 l)] ⟨.tuple #[.slice none 0 0, .int .i64 5], [(67, rowQ (lsQ3 l))], [67], []⟩ ∧ 33 = 33 ∧ 0 = 0) ∧
      Is (CiOK (lsG l 33 ++ [rowQ (lsQ3 l)]) (arg33 c) (List.range 67) (arg33 c) (lsG l 33) (.int .i64 5) ∧ 33 = 33 ∧ okLt l 33) ∧
      Is ((5 : Int) = fi [5, wi x 0 100000] ∧ fi [5, wi x 0 100000] ≠ 0) ∧
      K (.bool true) (lsG l 33 ++ [rowQ (lsQ3 l), some (.row [.int .i64 5, .int .i64 (wi x 0 100000)] 1 false true true)])) := by kernel_rfl
theorem ci33 (l : Ls) (c : Nat) (X : Heap) {ret : Value} (hr : atom ret = true) : CiOK (lsG l 33 ++ X) (arg33 c) (List.range 67) (arg33 c) (lsG l 33) ret := by
  have h := ci_pre (X := X) (still_ls l 33) (ls_arg l 33 33 c) hr
  rw [lsG_len] at h
  exact h
theorem co33 (l : Ls) (c : Nat) : CoOK (lsG l 33) (arg33 c) (List.range 67) [67] (arg33 c) (lsG l 33) (.slice (some ⟨67, 0, none⟩) 33 0) (lsG l 33 ++ [rowQ (lsQ l)]) ⟨.slice (some ⟨67, 0, none⟩) 33 0, [(67, rowQ (lsQ1 l))], List.range 67, [67]⟩ :=
  ⟨by kernel_rfl, by kernel_rfl, by kernel_rfl, by kernel_rfl⟩
theorem ck33 (l : Ls) (x : Int) : CoOK (lsG l 33 ++ [rowQ (lsQ1 l)]) [.slice (some ⟨67, 0, none⟩) 33 0, .int .i64 x] [67] [] [.slice (some ⟨0, 0, none⟩) 33 0, .int .i64 x] [rowQ (lsQ2 l)] (.tuple #[.slice none 0 0, .int .i64 5]) [rowQ (lsQ2 l)] ⟨.tuple #[.slice none 0 0, .int .i64 5], [(67, rowQ (lsQ3 l))], [67], []⟩ :=
  ⟨by kernel_rfl, by kernel_rfl, by kernel_rfl, by kernel_rfl⟩
theorem fi_5 (w : Int) : fi [5, w] = 5 := by rw [fi]; exact if_neg (by decide)
theorem lw_33 (l : Ls) (c : Nat) (x : Int) (hs : okLs l 33) (hsh : shL l 33 = true) : ∃ H', SmallRes Tryz.prog 3 [.slice (some ⟨0, 0, none⟩) 33 c, .int .i64 x] (lsG l 33) (.bool true) H' := by
  obtain ⟨hl, _⟩ := sh_lt hs hsh
  refine ⟨lsG l 33 ++ [rowQ (lsQ3 l), some (.row [.int .i64 5, .int .i64 (wi x 0 100000)] 1 false true true)], fnP_res hm cL33_ok (hs := hsL33 l) ?_⟩
  show fnP Tryz.prog cL33 (hsL33 l) 3 _ (lsG l 33) _
  rw [lw33_t, fi_5]
  have h1 := ci33 l c [] (ret := .bool true) rfl
  rw [List.append_nil] at h1
  exact ⟨⟨h1, rfl, hs, hsh⟩, ⟨co33 l c, rfl, hl⟩, ⟨ck33 l x, rfl, rfl⟩, ⟨ci33 l c _ rfl, rfl, hl⟩, ⟨rfl, by decide⟩, rfl, rfl⟩
end
end Qq
end
