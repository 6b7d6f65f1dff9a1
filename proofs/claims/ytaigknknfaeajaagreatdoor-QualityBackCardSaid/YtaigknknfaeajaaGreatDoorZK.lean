/- Parts of the proof: VmAN, VmAO, VmBA, VmAP, VmAR. -/
import Derived.Test.YtaigknknfaeajaaGreatDoorZD
import Derived.Test.YtaigknknfaeajaaGreatDoorZC
import Derived.Laws.Concat
import Derived.Laws.Strings2
import Derived.Laws.Slices
section
/- Iterators whose states name the function that they call. -/
namespace Go.Vm
open Go.RowKit
noncomputable section
section
variable (P : Program) (call : CallF) (hz : Nat → Ys P) (Hc : Heap) (N : Nat) (el : Nat → List Value)
/-- An iterator's function. -/
def iterZ (f : FuncId) (cap : List Value) : Prop :=
  match P.funcs[f]? with
  | some fn =>
    match fn.body with
    | some c => ∀ l : Nat, codeY P call (hz l) l Hc N el c 0 false ((.func (.yield l) #[] #[] :: cap) ++ List.replicate (fn.ntmps - (cap.length + 1)) undef) Hc fun x i st e h =>
      match x with
      | .normal => finY P N fn.results.toList i st e h
      | .ret => finY P N fn.results.toList i st e h
      | _ => False
    | none => False
  | none => False
end
section
variable {P : Program} {call : CallF} {hz : Nat → Ys P} {Hc : Heap} {N : Nat} {el : Nat → List Value}
theorem iterZ_ok (hm : P.follows .mixedOrders = true) (hc : CallOK P call) {f : FuncId} {cap : List Value} (h : iterZ P call hz Hc N el f cap) : IterRes P f cap Hc N el := by
  unfold iterZ at h
  split at h
  · rename_i fn hfn
    split at h
    · rename_i c hbody
      intro F A ψ w cap' hh hw hs hb hl n l J Jx W hk hJ hJx hy hJ0
      have hh' : HRel F (fun id => id < Hc.length) ψ Hc w := ⟨fun id o ho => by
        obtain ⟨a, b, c⟩ := hh.live id o ho
        exact ⟨hb id a, b, fun hv => ⟨(c hv).1, (c hv).2.mono (fun id ha => ⟨hb id ha, rfl⟩) rfl⟩⟩, hh.inj, hh.fr, hh.own, fun id hid => ⟨hb id (hh.old id hid).1, (hh.old id hid).2⟩⟩
      have hbase : Base F w ψ Hc := ⟨by
        refine ⟨hh'.live, hh'.inj, hh'.fr, hh'.own, hh'.old⟩, hw, hs⟩
      have hlen : ((.func (.yield l) #[] #[] :: cap') : List Value).toArray.size = cap.length + 1 := by simpa using hl.len
      refine callsIn_any (ro := none) (m := n) (callsIn_of_wp_marks (F := fen none) (n := n) hfn hbody trivial ?_)
      have hlr : LR (fun id => id < Hc.length) ψ (.func (.yield l) #[] #[] :: cap) (.func (.yield l) #[] #[] :: cap') := ⟨by simp [hl.len], fun i => by
        cases i with
        | zero => exact .func _ #[] #[] #[] #[] rfl rfl (fun i => by simp [Array.getD]; exact .poison _) (fun i => by simp [Array.getD]; exact .poison _)
        | succ i => exact (hl.at_ i).mono fun id ha => ⟨hb id ha, rfl⟩⟩
      refine codeY_ok hm hc c _ _ _ _ _ (h l) n F w ψ J Jx hbase hJ hJx hy ⟨W, fun _ => False, fun id => id < Hc.length, ψ, []⟩ _ ψ _ W _ ⟨rfl, rfl, rfl, rfl, hk, fun _ => hJ0, fun h => by cases h⟩ ⟨fun t => ?_, ?_, rfl, hbase.at_ hk⟩ (fun id h => h) fun x i st e h' F' A' ψ' a' w' k00 k0 k1 k2 => ?_
      · have hrep : LR (fun id => id < Hc.length) ψ (List.replicate (fn.ntmps - (cap.length + 1)) undef) (List.replicate (fn.ntmps - (cap.length + 1)) undef) := ⟨rfl, fun i => by
          by_cases hi : i < fn.ntmps - (cap.length + 1)
          · simp only [List.getD_eq_getElem?_getD, List.getElem?_replicate, hi, if_true, Option.getD_some]; exact .refl_undef
          · simp only [List.getD_eq_getElem?_getD, List.getElem?_replicate, hi, if_false, Option.getD_none]; exact .poison _⟩
        have := (hlr.append hrep).at_ t
        rw [hlen]
        have e2 : ((.func (.yield l) #[] #[] :: cap' : List Value).toArray ++ Array.replicate (fn.ntmps - (cap.length + 1)) undef).getD t undef = ((.func (.yield l) #[] #[] :: cap' : List Value) ++ List.replicate (fn.ntmps - (cap.length + 1)) undef).getD t undef := by
          simp [Array.getD_eq_getD_getElem?, List.getD_eq_getElem?_getD, ← List.toArray_replicate]
        rw [e2]; exact this
      · have := hl.len; simp; omega
      · have hd : a'.defers = [] := by rw [k1.defers, k00.ds]
        have fin : finY P N fn.results.toList i st e h' → LeavesInM (fen none) n P fn a'.tmps (fun e W' => (∃ v, e = .returned v) ∧ (J N W' ∨ ∃ i, i < N ∧ Jx i W')) a'.defers .returning w' := by
          intro hfin
          rw [hd]
          unfold finY at hfin
          split at hfin
          · rename_i vs hvs
            obtain ⟨us, r1, r2⟩ := results_rel _ _ hvs k1
            have hres' : (results fn a'.tmps).run P w' = .ok (if h : us.toArray.size = 1 then us.toArray[0] else .tuple us.toArray) w' := by
              unfold results
              rw [Array.mapM_eq_mapM_toList]
              simp only [Sem.run_bind, Sem.run_map]
              rw [r1 _ (fun _ => rfl) (fun _ _ => rfl)]
              rfl
            refine ⟨_, hres', ⟨_, rfl⟩, ?_⟩
            have hbel := k00.below k1.heap
            cases st with
            | true => exact .inr ⟨i, hfin.out, hJx i _ _ (k00.Jx rfl) hbel⟩
            | false =>
              have := hfin.out
              subst this
              exact .inl (hJ i _ _ (k00.J rfl) hbel)
          · exact hfin.elim
        cases x with
        | normal => exact fin k0
        | ret => exact fin k0
        | exit id => exact k0.elim
    · exact h.elim
  · exact h.elim
end
end
end Go.Vm
end
section
/- A load whose value is told from the cells. -/
namespace Sp
noncomputable section
/-- The integer in a cell. -/
def iAt (cells : List Go.Value) (off : Nat) : Int := match cells[off]? with
  | some (.int _ n) => n
  | _ => 0
def gI (cells : List Go.Value) (off : Nat) : Go.Value := .int .i64 (iAt cells off)
end
end Sp
namespace Go.Vm
noncomputable section
def fLc (P : Program) (g : List Value → Nat → Value) (o : Oper) (env : List Value) (H : Heap) : Option (Out × Prop) :=
  match o.op with
  | .load t x =>
    match ev env x with
    | .pointer (some ⟨id, off, none⟩) =>
      match rd H id with
      | some (.row cells _ _ _ _) => some (⟨g cells off, [], [id], []⟩, evPart P t cells off = some (g cells off))
      | _ => none
    | _ => none
  | _ => none

def hLc (P : Program) (g : List Value → Nat → Value) : Hint P where
  fn := fLc P g
  ok := by
    intro o env H out vc h hv
    unfold fLc at h
    split at h
    · rename_i t x ho
      refine load_ok ho ?_
      unfold evLoad
      split at h
      · rename_i id off hx
        rw [hx]
        simp only
        split at h
        · rename_i hr
          rw [hr]; cases h
          simp only [hv, Option.map_some]
        · cases h
      · cases h
    · cases h
/-- The cells, with others from a place on. -/
def _root_.Sp.putL (cells : List Value) (off : Nat) (cs : List Value) : List Value := splice cells off cs
def fSp (P : Program) (o : Oper) (env : List Value) (H : Heap) : Option (Out × Prop) :=
  match o.op with
  | .store t x y =>
    match ev env x with
    | .pointer (some ⟨id, off, none⟩) =>
      match rd H id, P.info? t with
      | some (.row cells es more true flat), some i =>
        if (okv (ev env y) && Nat.beq (ev env y).cells.toList.length i.size && Nat.blt 0 (ev env y).cells.toList.length) = true then
          some (⟨undef, [(id, some (.row (Sp.putL cells off (ev env y).cells.toList) es more true (flat && (ev env y).cells.toList.all atom)))], [id], []⟩, off + (ev env y).cells.toList.length ≤ cells.length)
        else none
      | _, _ => none
    | _ => none
  | _ => none

def hSp (P : Program) : Hint P where
  fn := fSp P
  ok := by
    intro o env H out vc h hv
    unfold fSp at h
    split at h
    · rename_i t x y ho
      split at h
      · rename_i id off hx
        split at h
        · rename_i cells es more flat i hrd hi
          split at h
          · rename_i hc
            simp only [Bool.and_eq_true] at hc
            obtain ⟨⟨c1, c2⟩, c3⟩ := hc
            have c2 := Nat.eq_of_beq_eq_true c2
            have c3 : 0 < (ev env y).cells.toList.length := Nat.lt_of_lt_of_le (Nat.lt_succ_self 0) (Nat.le_of_ble_eq_true c3)
            cases h
            refine store_ok ho ?_
            unfold evStore
            rw [hx]
            simp only [hrd, hi]
            have hif : (okv (ev env y) && decide ((ev env y).cells.toList.length = i.size) && decide (off + (ev env y).cells.toList.length ≤ cells.length) && decide (0 < (ev env y).cells.toList.length)) = true := by
              rw [c1, decide_eq_true c2, decide_eq_true hv, decide_eq_true c3]; rfl
            rw [if_pos hif]
            rfl
          · cases h
        · cases h
      · cases h
    · cases h
end
end Go.Vm
end
section
/- Iterators with variables of their own, which they change. -/
namespace Go.Vm
open Go.RowKit
noncomputable section
namespace Ow

/-- The captured rows: what is sealed is as it was; what is the iterator's own is as it is. -/
def lowO (o o' : Option AObj) : Option AObj :=
  match o with
  | some (.row _ _ _ true _) => o'
  | o => o
def lowH (Hc H : Heap) : Heap := (List.range Hc.length).map fun id => lowO (rd Hc id) (rd H id)
def lowK (o o' : Option AObj) : Bool :=
  match o with
  | none => true
  | some (.row _ _ _ true _) => (match o' with
    | some (.row cs _ _ true true) => !cs.isEmpty
    | _ => false)
  | some (.row _ _ _ false _) => true
  | _ => false
def lowOK (Hc H : Heap) : Bool := (List.range Hc.length).all fun id => lowK (rd Hc id) (rd H id)

theorem rd_low {Hc H : Heap} (id : Nat) : rd (lowH Hc H) id = if id < Hc.length then lowO (rd Hc id) (rd H id) else none := by
  rw [lowH, rd_map]
  by_cases hi : id < Hc.length
  · rw [List.getElem?_eq_getElem (by simpa using hi), if_pos hi]; simp
  · rw [List.getElem?_eq_none (by simpa using hi), if_neg hi]; rfl
theorem low_spec {Hc H : Heap} (h : lowOK Hc H = true) {id : Nat} {o : AObj} (ho : rd Hc id = some o) :
    (o.rw = false ∧ lowO (rd Hc id) (rd H id) = some o) ∨ (o.rw = true ∧ ∃ cs es more, cs ≠ [] ∧ rd H id = some (.row cs es more true true) ∧ lowO (rd Hc id) (rd H id) = some (.row cs es more true true)) := by
  have hlt : id < Hc.length := rd_lt _ _ _ ho
  have h1 := List.all_eq_true.1 h id (List.mem_range.2 hlt)
  rw [ho] at h1 ⊢
  cases o with
  | iter s p => cases h1
  | smap e => cases h1
  | row cs es more rw fl =>
    cases rw with
    | false => exact .inl ⟨rfl, rfl⟩
    | true =>
      refine .inr ⟨rfl, ?_⟩
      simp only [lowK] at h1
      split at h1
      · rename_i cs' es' m' he
        refine ⟨cs', es', m', fun e => ?_, he, ?_⟩
        · rw [e] at h1; cases h1
        · simp only [lowO]; exact he
      · cases h1
section
variable (P : Program) (call : CallF) (hs : Ys P) (l : Nat) (Hc : Heap) (N : Nat) (el : Nat → List Value)
def opsY (ops : Array Oper) (rid : Nat) : Nat → List Oper → Nat → Bool → List Value → Heap → (Nat → Bool → List Value → Heap → Prop) → Prop
  | _, [], i, st, env, H, K => K i st env H
  | k, o :: r, i, st, env, H, K =>
    gP ops env o
      (fun env => match yieldArgs env o with
        | some (m, args) =>
          match st with
          | true => False
          | false => Is (i < N) ∧ m = l ∧ args = el i ∧ br (args.all ground && lowOK Hc H)
              (opsY ops rid (k + 1) r (i + 1) false ((put env o.dst (.bool true)).map (renV (lowρ Hc.length) 4)) (lowH Hc H) K ∧
               opsY ops rid (k + 1) r i true ((put env o.dst (.bool false)).map (renV (lowρ Hc.length) 4)) (lowH Hc H) K) False
        | none => stepP P call hs.toHs (rid * 100 + k) env H o fun out => opsY ops rid (k + 1) r i st (put env o.dst out.v) (ap H out.δ) K)
      (fun env => opsY ops rid (k + 1) r i st (put env o.dst undef) H K)

def codeY : Code → Nat → Bool → List Value → Heap → (Ex → Nat → Bool → List Value → Heap → Prop) → Prop
  | .skip, i, st, env, H, Q => Q .normal i st env H
  | .exit id, i, st, env, H, Q => Q (.exit id) i st env H
  | .ret, i, st, env, H, Q => Q .ret i st env H
  | .region id ops draw, i, st, env, H, Q =>
    match hs.ys.contains id with
    | true => match draw with
      | true => False
      | false => br (noDef ops.toList) (opsY P call hs l Hc N el ops id 0 ops.toList i st env H fun i st e h => Q .normal i st e h) False
    | false => br (plainC (.region id ops draw)) (codeP P call hs.toHs Hc.length (.region id ops draw) env H fun ex e h => Q ex i st e h) False
  | .seq x y, i, st, env, H, Q =>
    match hasY hs.ys (.seq x y) with
    | true => codeY x i st env H fun ex i st e h =>
      match ex with
      | .normal => codeY y i st e h Q
      | ex => Q ex i st e h
    | false => br (plainC (.seq x y)) (codeP P call hs.toHs Hc.length (.seq x y) env H fun ex e h => Q ex i st e h) False
  | .cond c x y, i, st, env, H, Q =>
    match ev env c with
    | .bool b => br b (codeY x i st (known env c true) H Q) (codeY y i st (known env c false) H Q)
    | _ => False
  | .block id c, i, st, env, H, Q => codeY c i st env H fun ex i st e h =>
    match ex with
    | .exit j => if j = id then Q .normal i st e h else Q (.exit j) i st e h
    | ex => Q ex i st e h
  | .loop c, i, st, env, H, Q =>
    match hasY hs.ys (.loop c) with
    | false => br (plainC (.loop c)) (codeP P call hs.toHs Hc.length (.loop c) env H fun ex e h => Q ex i st e h) False
    | true =>
    match hs.ly (firstRid c) with
    | some L =>
      (gcP Hc.length (hs.cl (firstRid c)) (hs.nl (firstRid c)) env H fun e h => st = false ∧ ∃ s, Is (L.I s) ∧ Is (i = L.gi s) ∧ e = L.E s ∧ h = L.Hp s) ∧
      ∀ s, Is (L.I s) → codeY c (L.gi s) false (L.E s) (L.Hp s) fun x i' st' e' h' =>
        match x with
        | .normal => gcP Hc.length (hs.cl (firstRid c)) (hs.nl (firstRid c)) e' h' fun e h => st' = false ∧ ∃ s', Is (L.I s') ∧ Is (L.m s' < L.m s) ∧ Is (i' = L.gi s') ∧ e = L.E s' ∧ h = L.Hp s'
        | x => Q x i' st' e' h'
    | none => iterYP Hc.length (hs.cl (firstRid c)) (hs.nl (firstRid c)) (codeY c) Q 64 i st env H
  | _, _, _, _, _, _ => False

end
section
variable (P : Program) (call : CallF) (hz : Nat → Ys P) (Hc : Heap) (N : Nat) (el : Nat → List Value)
/-- An iterator's function. -/
def iterZ (f : FuncId) (cap : List Value) : Prop :=
  match P.funcs[f]? with
  | some fn =>
    match fn.body with
    | some c => (lowOK Hc Hc = true) ∧ ∀ l : Nat, codeY P call (hz l) l Hc N el c 0 false ((.func (.yield l) #[] #[] :: cap) ++ List.replicate (fn.ntmps - (cap.length + 1)) undef) Hc fun x i st e h =>
      match x with
      | .normal => finY P N fn.results.toList i st e h
      | .ret => finY P N fn.results.toList i st e h
      | _ => False
    | none => False
  | none => False
end
section
variable {P : Program} {call : CallF} {hs : Ys P} {hz : Nat → Ys P} {Hc : Heap} {N : Nat} {el : Nat → List Value}
/-- What stands between two steps of an iterator. -/
structure GY (Fc : Fr P) (w : World) (ψc : Nat → Gh) (Hc : Heap) (J Jx : Nat → World → Prop) (i : Nat) (st : Bool) (F : Fr P) : Prop where
  S : F.S = ownB ψc Hc
  ds : F.ds = []
  A0 : F.A0 = fun id => id < Hc.length
  ψ0 : F.ψ0 = ψc
  keep : KeepF Fc w F.w0
  J : st = false → J i F.w0
  Jx : st = true → Jx i F.w0

/-- The iterator's own: as it was when the call began. -/
structure Base (Fc : Fr P) (w : World) (ψc : Nat → Gh) (Hc : Heap) : Prop where
  h : HRel Fc (fun id => id < Hc.length) ψc Hc w
  w0 : Fc.w0 = w
  sealed : ∀ id o, rd Hc id = some o → o.rw = false → o.vd = false → ¬ Fc.S (ψc id).blk
  ok : lowOK Hc Hc = true

theorem Base.nonvoid {Fc : Fr P} {w : World} {ψc : Nat → Gh} (b : Base Fc w ψc Hc) {id : Nat} {o : AObj} (ho : rd Hc id = some o) (hr : o.rw = true) : o.vd = false := by
  rcases low_spec b.ok ho with ⟨h, _⟩ | ⟨_, cs, es, more, h1, h2, _⟩
  · rw [hr] at h; cases h
  · rw [ho] at h2; cases h2
    cases cs with
    | nil => exact absurd rfl h1
    | cons => rfl
theorem Base.own {Fc : Fr P} {w : World} {ψc : Nat → Gh} (b : Base Fc w ψc Hc) {k : Nat} (hk : ownB ψc Hc k) : Fc.S k ∧ k < w.heap.size := by
  obtain ⟨id, o, h1, h2, rfl⟩ := hk
  have hv := b.nonvoid h1 h2
  have hl := ((b.h.live id o h1).2.2 hv).1
  rcases b.h.own id o h1 h2 hv with h | h
  · rw [b.w0] at h; omega
  · exact ⟨h, hl⟩
theorem Base.low {Fc : Fr P} {w : World} {ψc : Nat → Gh} (b : Base Fc w ψc Hc) {F : Fr P} {A : Nat → Prop} {ψ : Nat → Gh} {H : Heap} {w1 W2 : World} (hr : HRel F A ψ H w1) (hA0 : F.A0 = fun id => id < Hc.length) (hψ : F.ψ0 = ψc)
    (hok : lowOK Hc H = true) (hk : KeepF Fc w W2) (hkb : keepB (ownB ψc Hc) w1 W2) (hsz : w1.heap.size ≤ W2.heap.size) :
    HRel (P := P) ⟨W2, ownB ψc Hc, fun id => id < Hc.length, ψc, []⟩ (fun id => id < Hc.length) ψc (lowH Hc H) W2 := by
  have hold : ∀ {id}, id < Hc.length → ψ id = ψc id := fun {id} h => by
    have := (hr.old id (by rw [hA0]; exact h)).2
    rw [hψ] at this; exact this
  have hgen : ∀ {id o}, rd (lowH Hc H) id = some o → id < Hc.length ∧ ∃ o', rd Hc id = some o' ∧ ((o'.rw = false ∧ o = o') ∨ (o'.rw = true ∧ ∃ cs es more, cs ≠ [] ∧ rd H id = some (.row cs es more true true) ∧ o = .row cs es more true true)) := fun {id o} ho => by
    rw [rd_low] at ho
    split at ho
    · rename_i hlt
      cases hc : rd Hc id with
      | none => rw [hc] at ho; cases ho
      | some o' =>
        refine ⟨hlt, o', rfl, ?_⟩
        rcases low_spec hok hc with ⟨h1, h2⟩ | ⟨h1, cs, es, more, h2, h3, h4⟩
        · rw [h2] at ho; cases ho; exact .inl ⟨h1, rfl⟩
        · rw [h4] at ho; cases ho; exact .inr ⟨h1, cs, es, more, h2, h3, rfl⟩
    · cases ho
  have hw : ∀ {id o}, rd Hc id = some o → o.rw = false → o.vd = false → W2.heap[(ψc id).blk]? = w.heap[(ψc id).blk]? := fun {id o} ho hf hv => hk.block _ (by rw [b.w0]; exact ((b.h.live id o ho).2.2 hv).1) (b.sealed id o ho hf hv)
  refine ⟨fun id o ho => ?_, fun i j oi oj hi hj hij hrw hvi hvj => ?_, ⟨rfl, rfl, rfl, Nat.le_refl _, fun _ _ _ => rfl, fun w' h1 h2 => ?_⟩, fun id o ho hrw _ => ?_, fun id hid => ⟨hid, rfl⟩⟩
  · obtain ⟨hlt, o', ho', h | h⟩ := hgen ho
    · obtain ⟨hf, rfl⟩ := h
      obtain ⟨h1, h2, h3⟩ := b.h.live id o ho'
      exact ⟨hlt, h2, fun hv => ⟨Nat.lt_of_lt_of_le (h3 hv).1 hk.size, (h3 hv).2.mono (fun _ ha => ⟨ha, rfl⟩) (hw ho' hf hv)⟩⟩
    · obtain ⟨ht, cs, es, more, hne, hH, rfl⟩ := h
      obtain ⟨h1, h2, h3⟩ := hr.live id _ hH
      rw [hold hlt] at h2 h3
      refine ⟨hlt, h2, fun hv => ?_⟩
      obtain ⟨h4, arr, el', fz, k1, k2, k3, k4, k5⟩ := h3 hv
      refine ⟨Nat.lt_of_lt_of_le h4 hsz, arr, el', fz, ?_, k2, fun i hi => ?_, k4, k5⟩
      · rw [hkb _ ⟨id, o', ho', ht, rfl⟩]; exact k1
      · obtain ⟨v', q1, q2, q3⟩ := k3 i hi
        have hm : cs.getD i poi ∈ cs := by
          rw [List.getD_eq_getElem?_getD, List.getElem?_eq_getElem hi]; exact List.getElem_mem hi
        have ha := k5 rfl _ hm
        have := q3.of_atom ha
        exact ⟨v', q1, q2, by rw [this]; exact .atom _ ha⟩
  · obtain ⟨_, oi', hi', h1⟩ := hgen hi
    obtain ⟨_, oj', hj', h2⟩ := hgen hj
    have hri : oi'.rw = true := by
      rcases h1 with ⟨hf, rfl⟩ | ⟨ht, _⟩
      · exact hrw
      · exact ht
    have hvj' : oj'.vd = false := by
      rcases h2 with ⟨hf, rfl⟩ | ⟨ht, _⟩
      · exact hvj
      · exact b.nonvoid hj' ht
    exact b.h.inj i j oi' oj' hi' hj' hij hri (b.nonvoid hi' hri) hvj'
  · refine b.h.fr.lay w' (fun k hkk hS => ?_) ?_
    · rw [b.w0] at hkk
      rw [h1 k (Nat.lt_of_lt_of_le hkk hk.size) (fun h => hS (b.own h).1), hk.block k (by rw [b.w0]; exact hkk) hS, b.w0]
    · rw [b.w0]; exact Nat.le_trans hk.size h2
  · obtain ⟨_, o', ho', h⟩ := hgen ho
    rcases h with ⟨hf, rfl⟩ | ⟨ht, _⟩
    · rw [hrw] at hf; cases hf
    · exact .inr ⟨id, o', ho', ht, rfl⟩
theorem congrH {F : Fr P} {A : Nat → Prop} {ψ : Nat → Gh} {H H' : Heap} {w : World} (h : HRel F A ψ H w) (e : ∀ id, rd H id = rd H' id) : HRel F A ψ H' w :=
  ⟨fun id o ho => h.live id o (by rw [e]; exact ho), fun i j oi oj hi hj => h.inj i j oi oj (by rw [e]; exact hi) (by rw [e]; exact hj), h.fr, fun id o ho => h.own id o (by rw [e]; exact ho), h.old⟩
theorem lowH_self (Hc : Heap) : ∀ id, rd (lowH Hc Hc) id = rd Hc id := fun id => by
  rw [rd_low]
  split
  · unfold lowO; split <;> rfl
  · rename_i h; exact (rd_len Hc id (by omega)).symm
theorem Base.start {Fc : Fr P} {w W : World} {ψc : Nat → Gh} (b : Base Fc w ψc Hc) (hk : KeepF Fc w W) (hkb : keepB (ownB ψc Hc) w W) :
    HRel (P := P) ⟨W, ownB ψc Hc, fun id => id < Hc.length, ψc, []⟩ (fun id => id < Hc.length) ψc Hc W :=
  congrH (b.low (F := Vm.rebase P w ψc Hc (fun id => id < Hc.length) ψc []) (b.h.rebase fun _id h => ⟨h, rfl⟩) rfl rfl b.ok hk hkb hk.size) (lowH_self Hc)
def GoesY (Hc : Heap) (P : Program) (c : Code) (i : Nat) (st : Bool) (env : List Value) (H : Heap) (l : Nat) (N : Nat) (el : Nat → List Value) (Q : Ex → Nat → Bool → List Value → Heap → Prop) : Prop :=
  ∀ (n : Nat) (Fc : Fr P) (wc : World) (ψc : Nat → Gh) (J Jx : Nat → World → Prop), Base Fc wc ψc Hc → AbideB (ownB ψc Hc) J → AbideB (ownB ψc Hc) Jx →
    (∀ i W1, J i W1 → KeepF Fc wc W1 → i < N → YieldAt (fen none) n P l (el i).toArray W1 fun e W' =>
        (e = .returned (.bool true) ∧ J (i + 1) W' ∧ KeepF Fc W1 W' ∧ keepB (ownB ψc Hc) W1 W') ∨ (e = .returned (.bool false) ∧ Jx i W' ∧ KeepF Fc W1 W' ∧ keepB (ownB ψc Hc) W1 W')) →
    ∀ (F : Fr P) A ψ a w (R : Exit → Act → World → Prop), GY Fc wc ψc Hc J Jx i st F → Rel F A ψ env H a w → (∀ id, A id → id < H.length) →
    (∀ x i' st' e h F' A' ψ' a' w', GY Fc wc ψc Hc J Jx i' st' F' → Q x i' st' e h → Rel F' A' ψ' e h a' w' → (∀ id, A' id → id < h.length) → R x.to a' w') → c.wpIn (fen none) n P R a w

theorem GY.below {Fc F : Fr P} {wc w : World} {ψc : Nat → Gh} {Hc : Heap} {i : Nat} {st : Bool} {J Jx : Nat → World → Prop} {A : Nat → Prop} {ψ : Nat → Gh} {H : Heap} (h : GY Fc wc ψc Hc J Jx i st F) (hh : HRel F A ψ H w) : BelowB (ownB ψc Hc) F.w0.heap.size F.w0 w :=
  ⟨hh.fr.os, hh.fr.tape, hh.fr.output, hh.fr.size, fun k hk hn => hh.fr.block k hk (by rw [h.S]; exact hn)⟩

theorem Base.below {Fc : Fr P} {w W W' : World} {ψc : Nat → Gh} (b : Base Fc w ψc Hc) (h : KeepF Fc w W) (hb : BelowB (ownB ψc Hc) W.heap.size W W') : KeepF Fc w W' :=
  ⟨hb.os.trans h.os, hb.tape.trans h.tape, hb.output.trans h.output, Nat.le_trans h.size hb.size, fun k h1 h2 => (hb.block k (by rw [b.w0] at h1; exact Nat.lt_of_lt_of_le h1 h.size) (fun h => h2 (b.own h).1)).trans (h.block k h1 h2)⟩

theorem goesY_of {c : Code} {i : Nat} {st : Bool} {env : List Value} {H : Heap} {l : Nat} {Q : Ex → Nat → Bool → List Value → Heap → Prop} (hp : plainC c = true)
    (h : GoesIn none P Hc.length c env H fun ex e h => Q ex i st e h) : GoesY Hc P c i st env H l N el Q := by
  intro n Fc wc ψc J Jx hbase hJ hJx hy F A ψ a w R hg hr hb hQ
  refine h n F A ψ a w R hr hb (fun id hid => by rw [hg.A0] at hid; exact hid) fun x e h F' A' ψ' a' w' hx hq k1 k2 => ?_
  have := hx.e hp
  subst this
  exact hQ _ _ _ _ _ _ _ _ _ _ hg hq k1 k2

theorem opsY_ok (hc : CallOK P call) {ops : Array Oper} {rid l : Nat} : ∀ (lst : List Oper) (k i : Nat) (st : Bool) (env : List Value) (H : Heap) (K : Nat → Bool → List Value → Heap → Prop), opsY P call hs l Hc N el ops rid k lst i st env H K →
    ∀ (n : Nat) (Fc : Fr P) (wc : World) (ψc : Nat → Gh) (J Jx : Nat → World → Prop), Base Fc wc ψc Hc → AbideB (ownB ψc Hc) J → AbideB (ownB ψc Hc) Jx →
    (∀ i W1, J i W1 → KeepF Fc wc W1 → i < N → YieldAt (fen none) n P l (el i).toArray W1 fun e W' =>
        (e = .returned (.bool true) ∧ J (i + 1) W' ∧ KeepF Fc W1 W' ∧ keepB (ownB ψc Hc) W1 W') ∨ (e = .returned (.bool false) ∧ Jx i W' ∧ KeepF Fc W1 W' ∧ keepB (ownB ψc Hc) W1 W')) →
    ∀ (F : Fr P) A ψ a w (R : Exit → Act → World → Prop), GY Fc wc ψc Hc J Jx i st F → Rel F A ψ env H a w → (∀ id, A id → id < H.length) →
    (∀ i' st' e h F' A' ψ' a' w', GY Fc wc ψc Hc J Jx i' st' F' → K i' st' e h → Rel F' A' ψ' e h a' w' → (∀ id, A' id → id < h.length) → R .normal a' w') → wpListIn (fen none) n P ops R lst a w := by
  intro lst
  induction lst with
  | nil => intro k i st env H K h n Fc wc ψc J Jx hbase hJ hJx hy F A ψ a w R hg hr hb hQ; exact hQ _ _ _ _ _ _ _ _ _ hg h hr hb
  | cons o r ih =>
    intro k i st env H K h n Fc wc ψc J Jx hbase hJ hJx hy F A ψ a w R hg hr hb hQ
    simp only [opsY] at h
    simp only [wpListIn]
    rcases gP_spec h with ⟨hw, h⟩ | ⟨hw, h⟩
    · rw [wanted_ok hr hw]
      simp only [if_true]
      split at h
      · rename_i m args ha
        cases st with
        | true => exact h.elim
        | false =>
        simp only at h
        obtain ⟨h1, hml, rfl, h4⟩ := h
        have hml := hml.symm
        subst hml
        obtain ⟨h50, h6, h7⟩ := br_only h4
        rw [Bool.and_eq_true] at h50
        obtain ⟨h5, h5b⟩ := h50
        obtain ⟨f, as, ts, ho, hf, hargs⟩ := yield_step ha
        have hfv := hr.ev f
        rw [hf] at hfv
        obtain ⟨ys, us, e1, l1, l2⟩ := hfv.func_inv
        have hys : ys = #[] := by apply Array.eq_empty_of_size_eq_zero; simpa using l1.len
        have hus : us = #[] := by apply Array.eq_empty_of_size_eq_zero; simpa using l2.len
        subst hys; subst hus
        have hlr : LR A ψ (as.toList.map (ev env)) (as.toList.map a.eval) := LR.args fun x _ => hr.ev x
        have hreal : as.toList.map a.eval = el i := by rw [ground_args hlr (by rw [← hargs]; exact h5), ← hargs]
        have hrealA : as.map a.eval = (el i).toArray := by
          apply Array.ext'; simpa using hreal
        have hbel := hg.below hr.heap
        have hkw : KeepF Fc wc w := hbase.below hg.keep hbel
        obtain ⟨fn, tmps, assign, body, hrun, hround⟩ := hy i w (hJ i _ _ (hg.J rfl) hbel) hkw h1.out
        have hexec : (execOp a.eval o).run P w = .ok (.round l fn tmps assign body) w := by
          simp [execOp, ho, resolve, Deferred.ofValue, e1, invoke, hrealA, hrun]
        refine ⟨fun _ _ => trivial, ?_⟩
        show o.uponIn (fen none) n P a _ R ((execOp a.eval o).run P w)
        rw [hexec]
        refine ⟨fun h => fen_depth h, (roundIn_any hround).mono ?_⟩
        have next : ∀ (b : Bool) (W2 : World), KeepF Fc w W2 → keepB (ownB ψc Hc) w W2 → Rel (P := P) ⟨W2, ownB ψc Hc, fun id => id < Hc.length, ψc, []⟩ (fun id => id < Hc.length) ψc ((put env o.dst (.bool b)).map (renV (lowρ Hc.length) 4)) (lowH Hc H) (a.put o.dst (.bool b)) W2 := by
          intro b W2 hk2 hkb
          have h0 := put_rel hr (VR.atom (A := A) (ψ := ψ) (.bool b) rfl) o.dst
          refine ⟨fun t => ?_, by rw [List.length_map]; exact h0.len, ?_, hbase.low hr.heap hg.A0 hg.ψ0 h5b (hkw.trans hk2) hkb hk2.size⟩
          · have := map_getD (A' := fun id => id < Hc.length) (ψ' := ψc) (f := renV (lowρ Hc.length) 4) (l := put env o.dst (.bool b)) (l' := (a.put o.dst (.bool b)).tmps.toList) (fun i _ => renV_rel (A := A) (ψ := ψ) (fun id j _ hj => by
              unfold lowρ at hj
              split at hj
              · rename_i hlt
                cases hj
                have h3 := hr.heap.old id (by rw [hg.A0]; exact hlt)
                rw [hg.ψ0] at h3
                exact ⟨hlt, h3.2.symm⟩
              · cases hj) 4 (by simpa [Array.getD_eq_getD_getElem?, List.getD_eq_getElem?_getD] using h0.slot i)) t
            simpa [Array.getD_eq_getD_getElem?, List.getD_eq_getElem?_getD] using this
          · have := hr.defers
            rw [hg.ds] at this
            cases hd : o.dst <;> simpa [Act.put, hd] using this
        rintro e W2 (⟨rfl, k1, k2, k3⟩ | ⟨rfl, k1, k2, k3⟩)
        · exact ih _ _ _ _ _ _ h6 n Fc wc ψc J Jx hbase hJ hJx hy _ _ _ _ _ _ ⟨rfl, rfl, rfl, rfl, hkw.trans k2, fun _ => k1, (fun h => by cases h)⟩ (next true W2 k2 k3) (fun id h => by rw [lowH, List.length_map, List.length_range]; exact h) hQ
        · exact ih _ _ _ _ _ _ h7 n Fc wc ψc J Jx hbase hJ hJx hy _ _ _ _ _ _ ⟨rfl, rfl, rfl, rfl, hkw.trans k2, (fun h => by cases h), fun _ => k1⟩ (next false W2 k2 k3) (fun id h => by rw [lowH, List.length_map, List.length_range]; exact h) hQ
      · obtain ⟨out, s1, s2, s3⟩ := stepP_spec hc h
        obtain ⟨h1, h2⟩ := fresh_spec s2 hb
        refine oper_in (.inl rfl) (s1 F A ψ env H a w hr (fun _ _ => rfl) (fun _ _ => rfl) h1 _ _ fun ψ1 a1 w1 hr1 => ?_)
        exact ih _ _ _ _ _ _ s3 n Fc wc ψc J Jx hbase hJ hJx hy F _ _ _ _ _ hg hr1 h2 hQ
    · rw [wanted_ok hr hw]
      simp only [Bool.false_eq_true, if_false]
      exact ⟨fun _ _ => trivial, ih _ _ _ _ _ _ h n Fc wc ψc J Jx hbase hJ hJx hy F _ _ _ _ _ hg (skip_rel hr o.dst) hb hQ⟩

theorem codeY_ok (hm : P.follows .mixedOrders = true) (hc : CallOK P call) {l : Nat} : ∀ (c : Code) (i : Nat) (st : Bool) (env : List Value) (H : Heap) (Q : Ex → Nat → Bool → List Value → Heap → Prop),
    codeY P call hs l Hc N el c i st env H Q → GoesY Hc P c i st env H l N el Q := by
  intro c
  induction c with
  | skip => intro i st env H Q hev n Fc wc ψc J Jx hbase hJ hJx hy F A ψ a w R hg hr hb hQ; exact wpIn_skip (hQ _ _ _ _ _ _ _ _ _ _ hg hev hr hb)
  | exit id => intro i st env H Q hev n Fc wc ψc J Jx hbase hJ hJx hy F A ψ a w R hg hr hb hQ; exact wpIn_exit (hQ (.exit id) _ _ _ _ _ _ _ _ _ hg hev hr hb)
  | ret => intro i st env H Q hev n Fc wc ψc J Jx hbase hJ hJx hy F A ψ a w R hg hr hb hQ; exact wpIn_ret (hQ .ret _ _ _ _ _ _ _ _ _ hg hev hr hb)
  | region id ops draw =>
    intro i st env H Q hev
    simp only [codeY] at hev
    split at hev
    · split at hev
      · exact hev.elim
      · intro n Fc wc ψc J Jx hbase hJ hJx hy F A ψ a w R hg hr hb hQ
        exact wpIn_region_list (opsY_ok hc _ _ _ _ _ _ _ (br_only hev).2 n Fc wc ψc J Jx hbase hJ hJx hy F A ψ a w R hg hr hb fun i' st' e h F' A' ψ' a' w' q0 q1 q2 q3 => hQ .normal _ _ _ _ _ _ _ _ _ q0 q1 q2 q3)
    · exact goesY_of (br_only hev).1 (codeP_okIn hm hc _ _ none _ _ _ (.inl rfl) (br_only hev).2)
  | seq x y ihx ihy =>
    intro i st env H Q hev
    simp only [codeY] at hev
    split at hev
    · intro n Fc wc ψc J Jx hbase hJ hJx hy F A ψ a w R hg hr hb hQ
      refine wpIn_seq (ihx _ _ _ _ _ hev n Fc wc ψc J Jx hbase hJ hJx hy F A ψ a w _ hg hr hb fun ex i' st' e h F' A' ψ' a' w' k00 k0 k1 k2 => ?_)
      cases ex with
      | normal => exact ihy _ _ _ _ _ k0 n Fc wc ψc J Jx hbase hJ hJx hy F' A' ψ' a' w' R k00 k1 k2 hQ
      | exit id => exact hQ (.exit id) _ _ _ _ _ _ _ _ _ k00 k0 k1 k2
      | ret => exact hQ .ret _ _ _ _ _ _ _ _ _ k00 k0 k1 k2
    · exact goesY_of (br_only hev).1 (codeP_okIn hm hc _ _ none _ _ _ (.inl rfl) (br_only hev).2)
  | cond c x y ihx ihy =>
    intro i st env H Q hev n Fc wc ψc J Jx hbase hJ hJx hy F A ψ a w R hg hr hb hQ
    simp only [codeY] at hev
    have hcv := hr.ev c
    split at hev
    · rename_i b hv
      rw [hv] at hcv
      have hce := hcv.of_atom rfl
      obtain ⟨h1, h2⟩ := br_iff.1 hev
      cases b with
      | true => have h1 := h1 rfl; rw [known_same hv] at h1; exact wpIn_cond_true hce (ihx _ _ _ _ _ h1 n Fc wc ψc J Jx hbase hJ hJx hy F A ψ a w R hg hr hb hQ)
      | false => have h2 := h2 rfl; rw [known_same hv] at h2; exact wpIn_cond_false hce (ihy _ _ _ _ _ h2 n Fc wc ψc J Jx hbase hJ hJx hy F A ψ a w R hg hr hb hQ)
    · exact hev.elim
  | block id c ih =>
    intro i st env H Q hev n Fc wc ψc J Jx hbase hJ hJx hy F A ψ a w R hg hr hb hQ
    simp only [codeY] at hev
    refine wpIn_block (ih _ _ _ _ _ hev n Fc wc ψc J Jx hbase hJ hJx hy F A ψ a w _ hg hr hb fun ex i' st' e h F' A' ψ' a' w' k00 k0 k1 k2 => ?_)
    cases ex with
    | normal => exact hQ .normal _ _ _ _ _ _ _ _ _ k00 k0 k1 k2
    | ret => exact hQ .ret _ _ _ _ _ _ _ _ _ k00 k0 k1 k2
    | exit j =>
      simp only at k0
      simp only [Ex.to, Exit.inBlock]
      split at k0
      · rename_i hi
        rw [if_pos hi]
        exact hQ .normal _ _ _ _ _ _ _ _ _ k00 k0 k1 k2
      · rename_i hi
        rw [if_neg hi]
        exact hQ (.exit j) _ _ _ _ _ _ _ _ _ k00 k0 k1 k2
  | loop c ih =>
    intro i st env H Q hev
    simp only [codeY] at hev
    split at hev
    · exact goesY_of (br_only hev).1 (codeP_okIn hm hc _ _ none _ _ _ (.inl rfl) (br_only hev).2)
    · split at hev
      · rename_i L _
        intro n Fc wc ψc J Jx hbase hJ hJx hy F A ψ a w R hg hr hb hQ
        obtain ⟨h0, h1⟩ := hev
        have hA0 : ∀ {i st F}, GY Fc wc ψc Hc J Jx i st F → ∀ id, F.A0 id → id < Hc.length := fun hg id hid => by rw [hg.A0] at hid; exact hid
        obtain ⟨e2, h2, A2, ψ2, g1, g2, rfl, s, g3, g4, rfl, rfl⟩ := gcP_spec h0 hr (hA0 hg)
        have key : ∀ (m : Nat) (s : L.σ) (F : Fr P) (A : Nat → Prop) (ψ : Nat → Gh) (a : Act) (w : World), GY Fc wc ψc Hc J Jx (L.gi s) false F → Is (L.I s) → L.m s < m → Rel F A ψ (L.E s) (L.Hp s) a w → (∀ id, A id → id < (L.Hp s).length) → Code.roundsIn (fen none) n P c R m a w := by
          intro m
          induction m with
          | zero => intro s F A ψ a w _ _ hlt _ _; omega
          | succ m ihn =>
            intro s F A ψ a w hg hI hlt hr hb
            rw [roundsIn_succ]
            refine ih _ _ _ _ _ (h1 s hI) n Fc wc ψc J Jx hbase hJ hJx hy F A ψ a w _ hg hr hb fun x i' st' e h F' A' ψ' a' w' k00 k0 k1 k2 => ?_
            cases x with
            | normal =>
              obtain ⟨e3, h3, A3, ψ3, q1, q2, rfl, s', q3, q4, q5, rfl, rfl⟩ := gcP_spec k0 k1 (hA0 k00)
              have := q5.out
              subst this
              exact ihn s' F' A3 ψ3 a' w' k00 q3 (by have := q4.out; omega) q1 q2
            | exit id => exact hQ (.exit id) _ _ _ _ _ _ _ _ _ k00 k0 k1 k2
            | ret => exact hQ .ret _ _ _ _ _ _ _ _ _ k00 k0 k1 k2
        have := g4.out
        subst this
        exact wpIn_loop_rounds _ (key _ s F A2 ψ2 a w hg g3 (Nat.lt_succ_self _) g1 g2)
      · intro n Fc wc ψc J Jx hbase hJ hJx hy F A ψ a w R hg hr hb hQ
        generalize 64 = m at hev
        have hA0 : ∀ {i st F}, GY Fc wc ψc Hc J Jx i st F → ∀ id, F.A0 id → id < Hc.length := fun hg id hid => by rw [hg.A0] at hid; exact hid
        have key : ∀ (m : Nat) (i : Nat) (st : Bool) (env : List Value) (H : Heap) (F : Fr P) (A : Nat → Prop) (ψ : Nat → Gh) (a : Act) (w : World), GY Fc wc ψc Hc J Jx i st F →
            iterYP Hc.length (hs.cl (firstRid c)) (hs.nl (firstRid c)) (codeY P call hs l Hc N el c) Q m i st env H → Rel F A ψ env H a w → Code.roundsIn (fen none) n P c R m a w := by
          intro m
          induction m with
          | zero => intro i st env H F A ψ a w _ h1 _; exact h1.elim
          | succ m ihn =>
            intro i st env H F A ψ a w hg h1 hr
            simp only [iterYP] at h1
            obtain ⟨e2, h2, A2, ψ2, g1, g2, g3⟩ := gcP_spec h1 hr (hA0 hg)
            rw [roundsIn_succ]
            refine ih _ _ _ _ _ g3 n Fc wc ψc J Jx hbase hJ hJx hy F A2 ψ2 a w _ hg g1 g2 fun x i' st' e h F' A' ψ' a' w' k00 k0 k1 k2 => ?_
            cases x with
            | normal => exact ihn _ _ _ _ _ _ _ _ _ k00 k0 k1
            | exit id => exact hQ (.exit id) _ _ _ _ _ _ _ _ _ k00 k0 k1 k2
            | ret => exact hQ .ret _ _ _ _ _ _ _ _ _ k00 k0 k1 k2
        exact wpIn_loop_rounds m (key m i st env H F A ψ a w hg hev hr)
  | _ => intro i st env H Q hev; simp [codeY] at hev

theorem iterZ_ok (hm : P.follows .mixedOrders = true) (hc : CallOK P call) {f : FuncId} {cap : List Value} (h : iterZ P call hz Hc N el f cap) : IterOwn P f cap Hc N el := by
  unfold iterZ at h
  split at h
  · rename_i fn hfn
    split at h
    · rename_i c hbody
      obtain ⟨hok, h⟩ := h
      intro F A ψ w cap' hh hw hs hb hl n l J Jx W hk hkb hJ hJx hy hJ0
      have hh' : HRel F (fun id => id < Hc.length) ψ Hc w := ⟨fun id o ho => by
        obtain ⟨a, b, c⟩ := hh.live id o ho
        exact ⟨hb id a, b, fun hv => ⟨(c hv).1, (c hv).2.mono (fun id ha => ⟨hb id ha, rfl⟩) rfl⟩⟩, hh.inj, hh.fr, hh.own, fun id hid => ⟨hb id (hh.old id hid).1, (hh.old id hid).2⟩⟩
      have hbase : Base F w ψ Hc := ⟨by
        refine ⟨hh'.live, hh'.inj, hh'.fr, hh'.own, hh'.old⟩, hw, hs, hok⟩
      have hstart : HRel (P := P) ⟨W, ownB ψ Hc, fun id => id < Hc.length, ψ, []⟩ (fun id => id < Hc.length) ψ Hc W := hbase.start hk hkb
      have hlen : ((.func (.yield l) #[] #[] :: cap') : List Value).toArray.size = cap.length + 1 := by simpa using hl.len
      refine callsIn_any (ro := none) (m := n) (callsIn_of_wp_marks (F := fen none) (n := n) hfn hbody trivial ?_)
      have hlr : LR (fun id => id < Hc.length) ψ (.func (.yield l) #[] #[] :: cap) (.func (.yield l) #[] #[] :: cap') := ⟨by simp [hl.len], fun i => by
        cases i with
        | zero => exact .func _ #[] #[] #[] #[] rfl rfl (fun i => by simp [Array.getD]; exact .poison _) (fun i => by simp [Array.getD]; exact .poison _)
        | succ i => exact (hl.at_ i).mono fun id ha => ⟨hb id ha, rfl⟩⟩
      refine codeY_ok hm hc c _ _ _ _ _ (h l) n F w ψ J Jx hbase hJ hJx hy ⟨W, ownB ψ Hc, fun id => id < Hc.length, ψ, []⟩ _ ψ _ W _ ⟨rfl, rfl, rfl, rfl, hk, fun _ => hJ0, fun h => by cases h⟩ ⟨fun t => ?_, ?_, rfl, hstart⟩ (fun id h => h) fun x i st e h' F' A' ψ' a' w' k00 k0 k1 k2 => ?_
      · have hrep : LR (fun id => id < Hc.length) ψ (List.replicate (fn.ntmps - (cap.length + 1)) undef) (List.replicate (fn.ntmps - (cap.length + 1)) undef) := ⟨rfl, fun i => by
          by_cases hi : i < fn.ntmps - (cap.length + 1)
          · simp only [List.getD_eq_getElem?_getD, List.getElem?_replicate, hi, if_true, Option.getD_some]; exact .refl_undef
          · simp only [List.getD_eq_getElem?_getD, List.getElem?_replicate, hi, if_false, Option.getD_none]; exact .poison _⟩
        have := (hlr.append hrep).at_ t
        rw [hlen]
        have e2 : ((.func (.yield l) #[] #[] :: cap' : List Value).toArray ++ Array.replicate (fn.ntmps - (cap.length + 1)) undef).getD t undef = ((.func (.yield l) #[] #[] :: cap' : List Value) ++ List.replicate (fn.ntmps - (cap.length + 1)) undef).getD t undef := by
          simp [Array.getD_eq_getD_getElem?, List.getD_eq_getElem?_getD, ← List.toArray_replicate]
        rw [e2]; exact this
      · have := hl.len; simp; omega
      · have hd : a'.defers = [] := by rw [k1.defers, k00.ds]
        have fin : finY P N fn.results.toList i st e h' → LeavesInM (fen none) n P fn a'.tmps (fun e W' => (∃ v, e = .returned v) ∧ (J N W' ∨ ∃ i, i < N ∧ Jx i W')) a'.defers .returning w' := by
          intro hfin
          rw [hd]
          unfold finY at hfin
          split at hfin
          · rename_i vs hvs
            obtain ⟨us, r1, r2⟩ := results_rel _ _ hvs k1
            have hres' : (results fn a'.tmps).run P w' = .ok (if h : us.toArray.size = 1 then us.toArray[0] else .tuple us.toArray) w' := by
              unfold results
              rw [Array.mapM_eq_mapM_toList]
              simp only [Sem.run_bind, Sem.run_map]
              rw [r1 _ (fun _ => rfl) (fun _ _ => rfl)]
              rfl
            refine ⟨_, hres', ⟨_, rfl⟩, ?_⟩
            have hbel := k00.below k1.heap
            cases st with
            | true => exact .inr ⟨i, hfin.out, hJx i _ _ (k00.Jx rfl) hbel⟩
            | false =>
              have := hfin.out
              subst this
              exact .inl (hJ i _ _ (k00.J rfl) hbel)
          · exact hfin.elim
        cases x with
        | normal => exact fin k0
        | ret => exact fin k0
        | exit id => exact k0.elim
    · exact h.elim
  · exact h.elim
end
end Ow
end
end Go.Vm
end
section
/- Strings: two put together, a part of one. -/
namespace Sp
noncomputable section
def cat (a b : ByteArray) : ByteArray := a ++ b
def sub (s : ByteArray) (l h : Int) : ByteArray := s.extract l.toNat h.toNat
end
end Sp
namespace Go.Vm
noncomputable section
def fCc (_P : Program) (o : Oper) (env : List Value) (_ : Heap) : Option (Out × Prop) :=
  match o.op with
  | .binOp .add _ x y _ =>
    match ev env x, ev env y with
    | .string a, .string b => some (⟨.string (Sp.cat a b), [], [], []⟩, a.size + b.size ≤ 9223372036854775807)
    | _, _ => none
  | _ => none

def hCc (P : Program) : Hint P where
  fn := fCc P
  ok := by
    intro o env H out vc h hv
    unfold fCc at h
    split at h
    · rename_i t x y yt ho
      split at h
      · rename_i a b hx hy
        cases h
        refine StepOK.value fun F A ψ env1 H1 ac w hr he _ => ⟨.string (a ++ b), ?_, .atom _ rfl⟩
        have q1 := opd hr he (x := x) (by simp [ho, Op.operands])
        have q2 := opd hr he (x := y) (by simp [ho, Op.operands])
        rw [hx] at q1; rw [hy] at q2
        have e1 := q1.of_atom rfl
        have e2 := q2.of_atom rfl
        have hg : ∀ w : World, (eqGuard .add t x y (.string a) (.string b)).run P w = .ok () w := fun w => by
          unfold eqGuard; rfl
        have hb : (binOp .add t (.string a) (.string b)).run P w = .ok (.string (a ++ b)) w := by
          simp [binOp, run_string_add_sum w a b hv]
        simp only [execOp, ho, e1, e2]
        rw [Sem.run_bind, Sem.run_bind, hg, Result.andThen_ok, hb]; rfl
      · cases h
    · cases h

def fSs (P : Program) (o : Oper) (env : List Value) (_ : Heap) : Option (Out × Prop) :=
  match o.op with
  | .slice t x lo hi none =>
    match P.underlying t, ev env x with
    | some .string, .string s =>
      match bInt env 0 lo, bInt env s.size hi with
      | some l, some h => some (⟨.string (Sp.sub s l h), [], [], []⟩, 0 ≤ l ∧ l ≤ h ∧ h ≤ s.size)
      | _, _ => none
    | _, _ => none
  | _ => none

def hSs (P : Program) : Hint P where
  fn := fSs P
  ok := by
    intro o env H out vc h hv
    unfold fSs at h
    split at h
    · rename_i t x lo hi ho
      split at h
      · rename_i s hu hx
        split at h
        · rename_i l m hlo hhi
          cases h
          obtain ⟨v1, v2, v3⟩ := hv
          refine StepOK.value fun F A ψ env1 H1 ac w hr he _ => ⟨.string (s.extract l.toNat m.toNat), ?_, .atom _ rfl⟩
          have q1 := opd hr he (x := x) (by simp [ho, Op.operands])
          rw [hx] at q1
          have e1 := q1.of_atom rfl
          cases lo with
          | none =>
            simp only [bInt, Option.some.injEq] at hlo
            subst hlo
            cases hi with
            | none =>
              simp only [bInt, Option.some.injEq] at hhi
              subst hhi
              have := run_slice_string_all (P := P) w t s hu
              simp [execOp, ho, e1, run_sliceAt_string, hu, this]
            | some y =>
              have q2 := opd hr he (x := y) (by simp [ho, Op.operands])
              simp only [bInt] at hhi
              split at hhi
              · rename_i k n hy
                cases hhi
                rw [hy] at q2
                have e2 := q2.of_atom rfl
                have := run_slice_string_h (P := P) w t s hu k m (by simpa using v2) v3
                simp [execOp, ho, e1, e2, run_sliceAt_string, hu, this]
              · cases hhi
          | some z =>
            have q3 := opd hr he (x := z) (by simp [ho, Op.operands])
            simp only [bInt] at hlo
            split at hlo
            · rename_i kz nz hz
              cases hlo
              rw [hz] at q3
              have e3 := q3.of_atom rfl
              cases hi with
              | none =>
                simp only [bInt, Option.some.injEq] at hhi
                subst hhi
                have := run_slice_string_l (P := P) w t s hu kz l v1 (by simpa using v2)
                simp [execOp, ho, e1, e3, run_sliceAt_string, hu, this]
              | some y =>
                have q2 := opd hr he (x := y) (by simp [ho, Op.operands])
                simp only [bInt] at hhi
                split at hhi
                · rename_i k n hy
                  cases hhi
                  rw [hy] at q2
                  have e2 := q2.of_atom rfl
                  have := run_slice_string (P := P) w t s kz k l m hu v1 v2 v3
                  simp [execOp, ho, e1, e2, e3, run_sliceAt_string, hu, this]
                · cases hhi
            · cases hlo
        · cases h
      · cases h
    · cases h
/-- Strings are put together, and parted. -/
def auS {P : Program} (l : List (Nat × Hint P)) (o : Oper) : Option (Hint P) :=
  match o.op with
  | .binOp .add t _ _ _ => match Nat.beq t 9 with
    | true => some (hCc P)
    | false => auCalls l o
  | .slice t _ _ _ _ => match Nat.beq t 9 with
    | true => some (hSs P)
    | false => auCalls l o
  | _ => auCalls l o
end
end Go.Vm
end
section
/- A number, told in cases. -/
namespace Go.Vm
noncomputable section
variable {P : Program}
def fLit (v : Int) (o : Oper) (env : List Value) (_ : Heap) : Option (Bool × Out × Out) :=
  match o.op with
  | .assign x =>
    match ev env x with
    | .int k n => some (n == v, ⟨.int k v, [], [], []⟩, ⟨.int k n, [], [], []⟩)
    | _ => none
  | .move x =>
    match ev env x with
    | .int k n => some (n == v, ⟨.int k v, [], [], []⟩, ⟨.int k n, [], [], []⟩)
    | _ => none
  | _ => none
/-- A number that is copied: it is v, or not. -/
def hLit (P : Program) (v : Int) : HintB P where
  fn := fLit v
  ok := by
    intro o env H b o1 o2 h
    unfold fLit at h
    split at h
    · rename_i x ho
      split at h
      · rename_i k n hx
        cases h
        have hm := move_ok (P := P) (env := env) (H := H) (.inr ho)
        rw [hx] at hm
        refine ⟨fun hb => ?_, fun _ => hm⟩
        have : n = v := by simpa using hb
        subst this
        exact hm
      · cases h
    · rename_i x ho
      split at h
      · rename_i k n hx
        cases h
        have hm := move_ok (P := P) (env := env) (H := H) (.inl ho)
        rw [hx] at hm
        refine ⟨fun hb => ?_, fun _ => hm⟩
        have : n = v := by simpa using hb
        subst this
        exact hm
      · cases h
    · cases h
/-- Slots whose numbers are told in cases. -/
def boLit (P : Program) (l : List (Nat × Int)) (o : Oper) : Option (HintB P) :=
  match o.op, o.dst with
  | .assign _, some d => match l.lookup d with
    | some v => some (hLit P v)
    | none => autoB P o
  | .move _, some d => match l.lookup d with
    | some v => some (hLit P v)
    | none => autoB P o
  | _, _ => autoB P o
def fLl (l : List Int) (v : Int) (o : Oper) (env : List Value) (_ : Heap) : Option (List (Bool × Out) × Out × Prop) :=
  match o.op with
  | .move x =>
    match ev env x with
    | .int k n => some (l.map fun u => (n == u, ⟨.int k u, [], [], []⟩), ⟨.int k v, [], [], []⟩, n = v)
    | _ => none
  | _ => none
/-- A number that is one of some, or v. -/
def hLl (P : Program) (l : List Int) (v : Int) : HintL P where
  fn := fLl l v
  ok := by
    intro o env H l' out c h
    unfold fLl at h
    split at h
    · rename_i x ho
      split at h
      · rename_i k n hx
        cases h
        have hm := move_ok (P := P) (env := env) (H := H) (.inl ho)
        rw [hx] at hm
        refine ⟨fun y hy hb => ?_, fun hc => ?_⟩
        · obtain ⟨u, _, rfl⟩ := List.mem_map.1 hy
          have : n = u := by simpa using hb
          subst this
          exact hm
        · have hc : n = v := hc
          subst hc
          exact hm
      · cases h
    · cases h
/-- The slot whose number is told in cases. -/
def blAt (P : Program) (d : Nat) (l : List Int) (v : Int) (o : Oper) : Option (HintL P) :=
  match o.op, o.dst with
  | .move _, some d' => match Nat.beq d' d with
    | true => some (hLl P l v)
    | false => none
  | _, _ => none
def fNc (o : Oper) (env : List Value) (_ : Heap) : Option (Out × Prop) :=
  match o.op with
  | .nilCheck x =>
    match ev env x with
    | .pointer (some ⟨id, off, none⟩) => some (⟨.pointer (some ⟨id, off, none⟩), [], [], []⟩, True)
    | _ => none
  | _ => none
/-- A pointer that is not nil. -/
def hNc (P : Program) : Hint P where
  fn := fNc
  ok := by
    intro o env H out vc h hv
    unfold fNc at h
    split at h
    · rename_i x ho
      split at h
      · rename_i id off hx
        cases h
        refine StepOK.value fun F A ψ env1 H1 a w hr he _ => ?_
        have q1 := opd hr he (x := x) (by simp [ho, Op.operands])
        rw [hx] at q1
        obtain ⟨hA, e1⟩ := q1.ptr_inv
        exact ⟨_, by simp [execOp, ho, e1], .ptr id off hA⟩
      · cases h
    · cases h
/-- And pointers are not nil. -/
def auT {P : Program} (l : List (Nat × Hint P)) (o : Oper) : Option (Hint P) :=
  match o.op with
  | .nilCheck _ => some (hNc P)
  | _ => auS l o
end
end Go.Vm
end
