/- Operations on lists of any length. -/
import Derived.Test.YtaigknknfaeajaaGreatDoorVmQ
namespace Go.Vm
noncomputable section

section
variable {P : Program} {o : Oper} {env : List Value} {H : Heap}

theorem blt_lt {a b : Nat} (h : Nat.blt a b = true) : a < b := Nat.le_of_ble_eq_true h

/-- More may be let go. -/
theorem StepOK.drop {v : Value} {id nid : Nat} {ob : AObj} {D D' : List Nat} (h : StepOK P o env H ⟨v, [(nid, some ob)], D, [nid]⟩) (hne : id ≠ nid) (hD : ∀ i ∈ D, i ∈ D') :
    StepOK P o env H ⟨v, [(id, none), (nid, some ob)], D', [nid]⟩ := by
  intro F A ψ env1 H1 a w hr he hd hn K Q hK
  refine h F A ψ env1 H1 a w hr he (fun i hi => hd i (hD i hi)) hn K Q fun ψ1 a1 w1 hr1 => hK ψ1 a1 w1 ?_
  refine ⟨hr1.slot, hr1.len, hr1.defers, (hr1.heap.kill id).same_rd fun k => ?_⟩
  show rd (wr (wr H1 id none) nid (some ob)) k = rd (wr (wr H1 nid (some ob)) id none) k
  exact wr_comm hne _ _ k

/-- Something is appended to a list. -/
def fAp (P : Program) (o : Oper) (env : List Value) (H : Heap) : Option (Out × Prop) :=
  match o.op with
  | .call ⟨.builtin .append, args, ts⟩ =>
    match args.toList, ts.toList with
    | [x, y], [t, tx] =>
      match P.underlying t with
      | some (.slice elem) =>
        match P.info? elem with
        | some ie =>
          match ie.zero, ev env x with
          | some z, .slice (some ⟨id, 0, none⟩) n 0 =>
            match rd H id, evSrc P H ie.size tx (ev env y) with
            | some (.row cells es true true true), some (m, news, D) =>
              if Nat.beq es ie.size && Nat.beq z.cells.size ie.size && Nat.blt 0 ie.size && Nat.blt 0 m && Nat.blt id H.length then
                some (⟨.slice (some ⟨H.length, 0, none⟩) (n + m) 0, [(id, none), (H.length, some (.row (cells ++ news) es true true (news.all atom)))], id :: D, [H.length]⟩,
                  cells.length = n * ie.size ∧ (n + m) * ie.bytes ≤ 140737488355328 ∧ n + m ≤ 9223372036854775807)
              else none
            | _, _ => none
          | _, _ => none
        | none => none
      | _ => none
    | _, _ => none
  | _ => none

def hAp (P : Program) : Hint P where
  fn := fAp P
  ok := by
    intro o env H out vc h hv
    unfold fAp at h
    split at h
    · rename_i args ts ho
      split at h
      · rename_i x y t tx hargs hts
        split at h
        · rename_i elem hu
          split at h
          · rename_i ie hie
            split at h
            · rename_i z id n hz hx
              split at h
              · rename_i cells es m news D hrd hsrc
                split at h
                · rename_i hc
                  simp only [Bool.and_eq_true] at hc
                  obtain ⟨⟨⟨⟨c1, c2⟩, c3⟩, c4⟩, c5⟩ := hc
                  have c1 := Nat.eq_of_beq_eq_true c1
                  have c2 := Nat.eq_of_beq_eq_true c2
                  have c3 : 0 < ie.size := blt_lt c3
                  have c4 : 0 < m := blt_lt c4
                  have c5 : id < H.length := blt_lt c5
                  cases h
                  obtain ⟨v1, v2, v3⟩ := hv
                  have ho' : o.op = .call ⟨.builtin .append, #[x, y], ts⟩ := by
                    rw [ho, args_list hargs]
                  have hflat : (true && news.all atom) = news.all atom := rfl
                  rcases Nat.eq_zero_or_pos n with h0 | h0
                  · subst h0
                    have hcells : cells = [] := List.eq_nil_of_length_eq_zero (by simpa using v1)
                    subst hcells
                    refine StepOK.drop (D := [] ++ D) ?_ (by omega) (fun i hi => List.mem_cons_of_mem _ hi)
                    refine append_ok (nid := H.length) ho' ?_
                    unfold evAppend
                    simp only [hts, hu, hie, hz, hsrc, hx]
                    rw [if_neg (by omega)]
                    simp only [evOld, if_pos]
                    have hcond : (0 + m) * ie.bytes ≤ 140737488355328 ∧ 0 + m ≤ 9223372036854775807 ∧ z.cells.size = ie.size ∧ 0 < ie.size ∧ capV (.slice (some ⟨id, 0, none⟩) 0 0) ≠ big := ⟨v2, v3, c2, c3, fun h => by simp [capV, big] at h⟩
                    have hc0 : capOf (.slice (some ⟨id, 0, none⟩) 0 0) = some 0 := by
                      simp only [capOf]
                      rw [if_neg (by omega)]
                    simp only [if_pos hcond, hc0]
                    rw [if_neg (by omega), c1]
                    rfl
                  · refine append_ok (nid := H.length) ho' ?_
                    have hol : evOld H ie.size (.slice (some ⟨id, 0, none⟩) n 0) = some (n, cells, [id]) := by
                      simp only [evOld, hrd]
                      rw [if_neg (by omega), if_pos (by omega)]
                      simp only [List.drop_zero]
                      rw [List.take_of_length_le (by omega)]
                    unfold evAppend
                    simp only [hts, hu, hie, hz, hsrc, hx, hol]
                    rw [if_neg (by omega)]
                    have hcond : (n + m) * ie.bytes ≤ 140737488355328 ∧ n + m ≤ 9223372036854775807 ∧ z.cells.size = ie.size ∧ 0 < ie.size ∧ capV (.slice (some ⟨id, 0, none⟩) n 0) ≠ big := ⟨v2, v3, c2, c3, fun h => by simp [capV, big] at h⟩
                    have hc0 : capOf (.slice (some ⟨id, 0, none⟩) n 0) = none := by
                      simp only [capOf]
                      rw [if_pos ⟨trivial, h0⟩]
                    simp only [if_pos hcond, hc0, hrd]
                    rw [if_pos ⟨c1, v1⟩, hflat]
                · cases h
              · cases h
            · cases h
          · cases h
        · cases h
      · cases h
    · cases h

/-- A list, appended to the empty one: a list of its own. -/
def fAe (P : Program) (whole : Bool) (o : Oper) (env : List Value) (H : Heap) : Option (Out × Prop) :=
  match o.op with
  | .call ⟨.builtin .append, args, ts⟩ =>
    match args.toList, ts.toList with
    | [x, y], [t, tx] =>
      match P.underlying t, P.underlying tx with
      | some (.slice elem), some (.slice _) =>
        match P.info? elem with
        | some ie =>
          match ie.zero, ev env y with
          | some z, .slice (some ⟨jd, off, none⟩) n _ =>
            match rd H jd with
            | some (.row src _ _ _ true) =>
              if emp (ev env x) && Nat.beq z.cells.size ie.size && Nat.blt 0 ie.size then
                match whole with
                | true => match off with
                  | 0 => some (⟨.slice (some ⟨H.length, 0, none⟩) n 0, [(H.length, some (.row src ie.size true true true))], [jd], [H.length]⟩,
                    src.length = n * ie.size ∧ (∀ v ∈ src, atom v = true) ∧ n * ie.bytes ≤ 140737488355328 ∧ n ≤ 9223372036854775807)
                  | _ => none
                | false => some (⟨.slice (some ⟨H.length, 0, none⟩) n 0, [(H.length, some (.row ((src.drop off).take (n * ie.size)) ie.size true true true))], [jd], [H.length]⟩,
                    off + n * ie.size ≤ src.length ∧ (∀ v ∈ src, atom v = true) ∧ n * ie.bytes ≤ 140737488355328 ∧ n ≤ 9223372036854775807)
              else none
            | _ => none
          | _, _ => none
        | none => none
      | _, _ => none
    | _, _ => none
  | _ => none

theorem appendE_ok {x y : Operand} {ts : Array TypeId} {t tx elem e2 : TypeId} {ie : TypeInfo} {z : Value} {jd off n c : Nat} {src : List Value} {es : Nat} {m rw fl : Bool} {nid : Nat} (ho : o.op = .call ⟨.builtin .append, #[x, y], ts⟩) (hts : ts.toList = [t, tx])
    (hu : P.underlying t = some (.slice elem)) (hux : P.underlying tx = some (.slice e2)) (hie : P.info? elem = some ie) (hz : ie.zero = some z) (hy : ev env y = .slice (some ⟨jd, off, none⟩) n c) (hrd : rd H jd = some (.row src es m rw fl)) (hx : emp (ev env x) = true)
    (c2 : z.cells.size = ie.size) (c3 : 0 < ie.size) (v1 : off + n * ie.size ≤ src.length) (v0 : ∀ v ∈ src, atom v = true) (v2 : n * ie.bytes ≤ 140737488355328) (v3 : n ≤ 9223372036854775807) :
    StepOK P o env H ⟨.slice (some ⟨nid, 0, none⟩) n 0, [(nid, some (.row ((src.drop off).take (n * ie.size)) ie.size true true true))], [jd], [nid]⟩ := by
  have hsrc : evSrc P H ie.size tx (ev env y) = some (n, (src.drop off).take (n * ie.size), [jd]) := by
    simp only [evSrc, hux, hy, hrd]
    rw [if_pos v1]
  rcases Nat.eq_zero_or_pos n with h0 | h0
  · subst h0
    simp only [Nat.zero_mul, List.take_zero]
    intro F A ψ env1 H1 a w hr he hD hn K Q hK
    have hnn : ¬ A nid := hn _ (List.mem_singleton_self _)
    have hxv := opd hr he (x := x) (by simp [ho, Op.operands, Call.operands])
    have hyv := opd hr he (x := y) (by simp [ho, Op.operands, Call.operands])
    obtain ⟨b, e1⟩ := emp_spec hx hxv
    obtain ⟨news', s1, s2, s3, _⟩ := src_ok (P := P) hr.heap hyv hsrc hD
    have hnil : news' = [] := by apply List.eq_nil_of_length_eq_zero; rw [s3, s2]; simp
    subst hnil
    have hts' : ts = #[t, tx] := by
      rw [← Array.toArray_toList (xs := ts), hts]
    have hexec : execOp a.eval o = (do let v ← Builtin.append_ #[t, tx] o.type #[a.eval x, a.eval y]; pure (.value v)) := by
      simp [execOp, ho, resolve, invoke, builtin, hts']
    unfold Oper.wp
    have := run_append_nothing (P := P) w t tx o.type elem ie hu hie b 0 0 (Nat.le_refl _) (a.eval y) s1
    rw [hexec, Sem.run_bind, e1, this]
    have hag := mono_new (ψ := ψ) (g := ⟨0, 0, 0, ie.size⟩) hnn
    have hA : (fun id => A id ∨ id ∈ [nid]) = (fun id => A id ∨ id = nid) := by funext id; simp
    refine hK (upd ψ nid ⟨0, 0, 0, ie.size⟩) _ _ ?_
    rw [hA]
    exact put_rel ⟨fun t => (hr.slot t).mono hag, hr.len, hr.defers, hr.heap.void hnn _ _ _ _⟩ (.void _ _ _ (.inr rfl)) o.dst
  · have hat : (((src.drop off).take (n * ie.size)).all atom) = true := List.all_eq_true.2 fun v hv => v0 v (List.mem_of_mem_drop (List.mem_of_mem_take hv))
    have key : ∀ D0 : List Nat, evOld H ie.size (ev env x) = some (0, [], D0) → capOf (ev env x) = some 0 → capV (ev env x) ≠ big → D0 = [] →
        evAppend P H nid ts.toList (ev env x) (ev env y) = some ⟨.slice (some ⟨nid, 0, none⟩) n 0, [(nid, some (.row ((src.drop off).take (n * ie.size)) ie.size true true true))], [jd], [nid]⟩ := by
      intro D0 k1 k2 k3 k4
      subst k4
      unfold evAppend
      simp only [hts, hu, hie, hz, hsrc, k1, k2]
      have hcond : (0 + n) * ie.bytes ≤ 140737488355328 ∧ 0 + n ≤ 9223372036854775807 ∧ z.cells.size = ie.size ∧ 0 < ie.size ∧ capV (ev env x) ≠ big := ⟨by simpa using v2, by simpa using v3, c2, c3, k3⟩
      rw [if_neg (by omega), if_pos hcond, if_neg (by omega)]
      simp only [List.nil_append, Nat.zero_add, hat]
    refine append_ok (nid := nid) ho ?_
    unfold emp at hx
    split at hx
    · rename_i e; rw [e] at key ⊢; exact key [] rfl rfl (by simp [capV, big]) rfl
    · rename_i e; rw [e] at key ⊢; exact key [] rfl (by simp [capOf]) (by simp [capV, big]) rfl
    · cases hx

def hAe (P : Program) (whole : Bool) : Hint P where
  fn := fAe P whole
  ok := by
    intro o env H out vc h hv
    unfold fAe at h
    split at h
    · rename_i args ts ho
      split at h
      · rename_i x y t tx hargs hts
        have ho' : o.op = .call ⟨.builtin .append, #[x, y], ts⟩ := by
          rw [ho, args_list hargs]
        split at h
        · rename_i elem e2 hu hux
          split at h
          · rename_i ie hie
            split at h
            · rename_i z jd off n c hz hy
              split at h
              · rename_i src es m rw hrd
                split at h
                · rename_i hc
                  simp only [Bool.and_eq_true] at hc
                  obtain ⟨⟨c1, c2⟩, c3⟩ := hc
                  have c2 := Nat.eq_of_beq_eq_true c2
                  have c3 : 0 < ie.size := blt_lt c3
                  split at h
                  · split at h
                    · cases h
                      obtain ⟨v1, v0, v2, v3⟩ := hv
                      have := appendE_ok (nid := H.length) ho' hts hu hux hie hz hy hrd c1 c2 c3 (by omega) v0 v2 v3
                      rw [List.drop_zero, List.take_of_length_le (by omega)] at this
                      exact this
                    · cases h
                  · cases h
                    obtain ⟨v1, v0, v2, v3⟩ := hv
                    exact appendE_ok ho' hts hu hux hie hz hy hrd c1 c2 c3 v1 v0 v2 v3
                · cases h
              · cases h
            · cases h
          · cases h
        · cases h
      · cases h
    · cases h

def bInt (env : List Value) (d : Nat) : Option Operand → Option Int
  | none => some (Int.ofNat d)
  | some y => match ev env y with
    | .int _ n => some n
    | _ => none

theorem bInt_spec {env : List Value} {d : Nat} {x : Option Operand} {n : Int} (h : bInt env d x = some n) (h0 : 0 ≤ n) : bval env d x = some n.toNat := by
  cases x with
  | none => simp only [bInt, Option.some.injEq] at h; subst h; rfl
  | some y =>
    simp only [bInt] at h
    split at h
    · rename_i k m hv
      cases h
      simp only [bval, hv, natOf, if_pos h0]
    · cases h

/-- A part of a list, to be looked at. -/
def fSl (P : Program) (o : Oper) (env : List Value) (_ : Heap) : Option (Out × Prop) :=
  match o.op with
  | .slice t x lo hi none =>
    match P.underlying t, ev env x with
    | some (.slice elem), .slice (some ⟨id, off, none⟩) len _ =>
      match P.info? elem, bInt env 0 lo, bInt env len hi with
      | some ie, some l, some h => some (⟨.slice (some ⟨id, off + l.toNat * ie.size, none⟩) (h.toNat - l.toNat) big, [], [], []⟩, 0 ≤ l ∧ l ≤ h ∧ h ≤ len)
      | _, _, _ => none
    | _, _ => none
  | _ => none

def hSl (P : Program) : Hint P where
  fn := fSl P
  ok := by
    intro o env H out vc h hv
    unfold fSl at h
    split at h
    · rename_i t x lo hi ho
      split at h
      · rename_i elem id off len c hu hx
        split at h
        · rename_i ie l hh hie hlo hhi
          cases h
          obtain ⟨v1, v2, v3⟩ := hv
          exact slice_view ho hu hx hie (bInt_spec hhi (by omega)) (bInt_spec hlo v1) (by omega) (by omega)
        · cases h
      · cases h
    · cases h

/-- A byte of a text, as a number. -/
def _root_.Sp.bt (s : ByteArray) (i : Nat) : Int := Int.ofNat (s.data.toList.getD i 0).toNat

def fSi (P : Program) (o : Oper) (env : List Value) (_ : Heap) : Option (Out × Prop) :=
  match o.op with
  | .index t x i =>
    match P.underlying t, ev env x, ev env i with
    | some .string, .string s, .int _ n => some (⟨.int .u8 (Sp.bt s n.toNat), [], [], []⟩, 0 ≤ n ∧ n < s.size)
    | _, _, _ => none
  | _ => none

def hSi (P : Program) : Hint P where
  fn := fSi P
  ok := by
    intro o env H out vc h hv
    unfold fSi at h
    split at h
    · rename_i t x i ho
      split at h
      · rename_i s k n hu hx hi
        cases h
        refine StepOK.value fun F A ψ env1 H1 a w hr he _ => ⟨.int .u8 (Sp.bt s n.toNat), ?_, .atom _ rfl⟩
        have h1 := opd hr he (x := x) (by simp [ho, Op.operands])
        have h2 := opd hr he (x := i) (by simp [ho, Op.operands])
        rw [hx] at h1; rw [hi] at h2
        have e1 := h1.of_atom rfl
        have e2 := h2.of_atom rfl
        have hlt : n.toNat < s.size := by omega
        have hb : (s[n.toNat]'hlt).toNat = (s.data.toList.getD n.toNat 0).toNat := by
          have : n.toNat < s.data.size := hlt
          simp only [List.getD_eq_getElem?_getD, Array.getElem?_toList, Array.getElem?_eq_getElem this, Option.getD_some]
          rfl
        simp [execOp, ho, e1, e2, run_index_string w t s k n hu, hv, Sp.bt, hb]
      · cases h
    · cases h

end
end
end Go.Vm
