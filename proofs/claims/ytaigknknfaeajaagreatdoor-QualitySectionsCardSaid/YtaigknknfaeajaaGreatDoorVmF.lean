/- slice expressions, append, copy, ranging over a string. -/
import Derived.Test.YtaigknknfaeajaaGreatDoorVmE
namespace Go.Vm
noncomputable section

section
variable {P : Program} {o : Oper} {env env1 : List Value} {H H1 : Heap} {F : Fr P} {A : Nat → Prop} {ψ : Nat → Gh} {a : Act} {w : World}

def natOf : Value → Option Nat
  | .int _ n => if 0 ≤ n then some n.toNat else none
  | _ => none

/-- A bound, or what stands for it. -/
def bval (env : List Value) (d : Nat) : Option Operand → Option Nat
  | none => some d
  | some x => natOf (ev env x)

theorem bval_spec {x : Option Operand} {d n : Nat} (hr : Rel F A ψ env1 H1 a w) (he : ∀ y, x = some y → ev env1 y = ev env y) (h : bval env d x = some n) :
    (x.map a.eval = none ∧ n = d) ∨ ∃ k m, x.map a.eval = some (.int k m) ∧ 0 ≤ m ∧ m.toNat = n := by
  cases x with
  | none => simp [bval] at h; exact .inl ⟨rfl, h.symm⟩
  | some y =>
    simp only [bval, natOf] at h
    split at h
    · rename_i k m hv
      split at h
      · rename_i h0
        cases h
        have := hr.ev y
        rw [he y rfl, hv] at this
        exact .inr ⟨k, m, by simp [this.of_atom rfl], h0, rfl⟩
      · cases h
    · cases h

theorem run_bounds (isSlice : Bool) (len cap : Nat) (low high max : Option Value) (l h m : Nat) (hm : (max = none ∧ m = cap) ∨ ∃ k n, max = some (.int k n) ∧ 0 ≤ n ∧ n.toNat = m) (hmc : m ≤ cap)
    (hh : (high = none ∧ h = len ∧ max = none) ∨ ∃ k n, high = some (.int k n) ∧ 0 ≤ n ∧ n.toNat = h) (hhm : h ≤ m)
    (hl : (low = none ∧ l = 0) ∨ ∃ k n, low = some (.int k n) ∧ 0 ≤ n ∧ n.toNat = l) (hlh : l ≤ h) (w : World) :
    (Instr.sliceBounds isSlice len cap low high max).run P w = .ok (l, h, m) w := by
  have sb : ∀ (k : IntKind) (n : Int) (y : Nat) (c : BoundsCode), 0 ≤ n → n.toNat ≤ y → (Instr.sliceBound (.int k n) y c).run P w = .ok n.toNat w := fun k n y c h0 h1 => by
    have : n ≤ (y : Int) := by omega
    simp [Instr.sliceBound, asIntOf, h0, this]
  rcases hm with ⟨rfl, rfl⟩ | ⟨km, nm, rfl, m0, rfl⟩ <;> rcases hh with ⟨rfl, rfl, hx⟩ | ⟨kh, nh, rfl, h0, rfl⟩ <;> rcases hl with ⟨rfl, rfl⟩ | ⟨kl, nl, rfl, l0, rfl⟩ <;>
    first
      | (cases hx; done)
      | simp [Instr.sliceBounds, *]

theorem Addr_ite (b o l s : Nat) (c : Prop) [Decidable c] : (if c then (⟨b, o, none⟩ : Addr) else (⟨b, o, none⟩ : Addr).add (l * s)) = ⟨b, if c then o else o + l * s, none⟩ := by
  split <;> simp [Addr.add_mid]

/-- A slice expression. -/
def evSlice (P : Program) (env : List Value) (H : Heap) (t : TypeId) (x : Value) (lo hi mx : Option Operand) : Option Out :=
  match P.underlying t, x with
  | some (.array n elem), .pointer (some ⟨id, off, none⟩) =>
    match P.info? elem, bval env n mx, bval env n hi, bval env 0 lo with
    | some ie, some m, some h, some l =>
      if m ≤ n ∧ h ≤ m ∧ l ≤ h ∧ (mx = none ∨ hi ≠ none) then some ⟨.slice (some ⟨id, if m = l then off else off + l * ie.size, none⟩) (h - l) (m - l), [], [], []⟩ else none
    | _, _, _, _ => none
  | some (.slice elem), .slice (some ⟨id, off, none⟩) len cap =>
    match P.info? elem, bval env cap mx, bval env len hi, bval env 0 lo with
    | some ie, some m, some h, some l =>
        if cap = big then
        if mx = none ∧ h ≤ len ∧ l ≤ h then some ⟨.slice (some ⟨id, off + l * ie.size, none⟩) (h - l) big, [], [], []⟩ else none
      else if cap ≠ 0 ∨ len = 0 then
        if m ≤ cap ∧ h ≤ m ∧ l ≤ h ∧ (mx = none ∨ hi ≠ none) then some ⟨.slice (some ⟨id, if m = l then off else off + l * ie.size, none⟩) (h - l) (m - l), [], [], []⟩ else none
      else if mx = none then
        match rd H id with
        | some (.row _ es _ _ _) =>
          if es = ie.size ∧ h ≤ len ∧ l < h then some ⟨.slice (some ⟨id, off + l * ie.size, none⟩) (h - l) 0, [], [id], []⟩
          else if h ≤ len ∧ l = h then some ⟨.slice none 0 1, [], [], []⟩ else none
        | _ => none
      else if m ≤ len ∧ h ≤ m ∧ l ≤ h ∧ hi ≠ none then some ⟨.slice (some ⟨id, if m = l then off else off + l * ie.size, none⟩) (h - l) (m - l), [], [], []⟩ else none
    | _, _, _, _ => none
  | some (.slice elem), .slice none 0 cap =>
    match P.info? elem, bval env 0 mx, bval env 0 hi, bval env 0 lo with
    | some _, some 0, some 0, some 0 => if mx = none ∨ hi ≠ none then some ⟨.slice none 0 cap, [], [], []⟩ else none
    | _, _, _, _ => none
  | _, _ => none

theorem opt_hi {x : Option Operand} {y : Option Operand} (h : y = none ∨ x ≠ none) (hx : x.map a.eval = none) : y.map a.eval = none := by
  rcases h with h | h
  · rw [h]; rfl
  · cases x <;> simp_all

/-- A part of a slice, only to be looked at. -/
theorem slice_view {t elem : TypeId} {x : Operand} {lo hi : Option Operand} {id off len cap l hh : Nat} {ie : TypeInfo} (ho : o.op = .slice t x lo hi none) (hu : P.underlying t = some (.slice elem)) (hv : ev env x = .slice (some ⟨id, off, none⟩) len cap) (hie : P.info? elem = some ie)
    (hhi : bval env len hi = some hh) (hlo : bval env 0 lo = some l) (h1 : hh ≤ len) (h2 : l ≤ hh) : StepOK P o env H ⟨.slice (some ⟨id, off + l * ie.size, none⟩) (hh - l) big, [], [], []⟩ := by
  have hops : ∀ y, (y = x ∨ lo = some y ∨ hi = some y) → y ∈ o.op.operands := by
    intro y hy
    simp only [ho, Op.operands]
    rcases hy with rfl | rfl | rfl <;> simp
  refine StepOK.value fun F A ψ env1 H1 a w hr he _ => ?_
  have hx := opd hr he (x := x) (hops _ (.inl rfl))
  rw [hv] at hx
  obtain ⟨hA, ad, cap', e1, hle, e0, _⟩ := hx.slice_inv
  have b2 := bval_spec hr (fun y hy => he y (hops y (.inr (.inr hy)))) hhi
  have b3 := bval_spec hr (fun y hy => he y (hops y (.inr (.inl hy)))) hlo
  have hb := run_bounds (P := P) true len cap' (lo.map a.eval) (hi.map a.eval) none l hh cap' (.inl ⟨rfl, rfl⟩) (Nat.le_refl _) (b2.imp_left fun h => ⟨h.1, h.2, rfl⟩) (by omega) b3 (by omega) w
  refine ⟨.slice (if cap' = l then ad else ad.map (·.add (l * ie.size))) (hh - l) (cap' - l), ?_, .view _ _ _ _ _ hA (by omega) ?_⟩
  · simp [execOp, ho, e1, Instr.sliceAt, Instr.slice, run_underlying hu, hb, sizeOf, typeInfo, hie]
  · rcases Nat.eq_zero_or_pos (hh - l) with h0 | h0
    · exact .inl h0
    · refine .inr ?_
      have had := e0.resolve_left (by omega)
      rw [if_neg (by omega), had]
      simp [Addr.add_mid, Nat.add_assoc]

theorem slice_ok {t : TypeId} {x : Operand} {lo hi mx : Option Operand} {out : Out} (ho : o.op = .slice t x lo hi mx) (h : evSlice P env H t (ev env x) lo hi mx = some out) : StepOK P o env H out := by
  have hops : ∀ y, (y = x ∨ lo = some y ∨ hi = some y ∨ mx = some y) → y ∈ o.op.operands := by
    intro y hy
    simp only [ho, Op.operands]
    rcases hy with rfl | rfl | rfl | rfl <;> simp
  unfold evSlice at h
  split at h
  · rename_i n elem id off hu hv
    split at h
    · rename_i ie m hh l hie hm hhi hlo
      split at h
      · rename_i hc
        cases h
        refine StepOK.value fun F A ψ env1 H1 a w hr he _ => ?_
        have h1 := opd hr he (x := x) (hops _ (.inl rfl))
        rw [hv] at h1
        obtain ⟨hA, e1⟩ := h1.ptr_inv
        have b1 := bval_spec hr (fun y hy => he y (hops y (.inr (.inr (.inr hy))))) hm
        have b2 := bval_spec hr (fun y hy => he y (hops y (.inr (.inr (.inl hy))))) hhi
        have b3 := bval_spec hr (fun y hy => he y (hops y (.inr (.inl hy)))) hlo
        have hb := run_bounds (P := P) false n n (lo.map a.eval) (hi.map a.eval) (mx.map a.eval) l hh m b1 hc.1 (b2.imp_left fun h => ⟨h.1, h.2, opt_hi hc.2.2.2 h.1⟩) hc.2.1 b3 hc.2.2.1 w
        refine ⟨.slice (some ⟨(ψ id).blk, (ψ id).off + (if m = l then off else off + l * ie.size), none⟩) (hh - l) (m - l), ?_, .slice _ _ _ _ _ hA (.inl ⟨rfl, by omega⟩)⟩
        simp [execOp, ho, e1, Instr.sliceAt, run_underlying hu, Instr.sureAddr, hb, sizeOf, typeInfo, hie, Addr_ite]
        split <;> simp [Nat.add_assoc]
      · cases h
    · cases h
  · rename_i elem id off len cap hu hv
    split at h
    · rename_i ie m hh l hie hm hhi hlo
      split at h
      · rename_i hbig
        split at h
        · rename_i hc
          cases h
          obtain ⟨rfl, c1, c2⟩ := hc
          exact slice_view ho hu hv hie hhi hlo c1 c2
        · cases h
      rename_i hbig
      split at h
      · rename_i hk
        split at h
        · rename_i hc
          cases h
          refine StepOK.value fun F A ψ env1 H1 a w hr he _ => ?_
          have h1 := opd hr he (x := x) (hops _ (.inl rfl))
          rw [hv] at h1
          obtain ⟨hA, ad, cap', e1, _, _, hcr⟩ := h1.slice_inv
          have hcap : cap' = cap := by
            rcases hcr with ⟨h | h, _⟩ | h | h
            · exact h.1
            · omega
            · omega
            · exact absurd h hbig
          subst hcap
          have b1 := bval_spec hr (fun y hy => he y (hops y (.inr (.inr (.inr hy))))) hm
          have b2 := bval_spec hr (fun y hy => he y (hops y (.inr (.inr (.inl hy))))) hhi
          have b3 := bval_spec hr (fun y hy => he y (hops y (.inr (.inl hy)))) hlo
          have hb := run_bounds (P := P) true len cap' (lo.map a.eval) (hi.map a.eval) (mx.map a.eval) l hh m b1 hc.1 (b2.imp_left fun h => ⟨h.1, h.2, opt_hi hc.2.2.2 h.1⟩) hc.2.1 b3 hc.2.2.1 w
          by_cases ha : ad = some ⟨(ψ id).blk, (ψ id).off + off, none⟩
          · subst ha
            refine ⟨.slice (some ⟨(ψ id).blk, (ψ id).off + (if m = l then off else off + l * ie.size), none⟩) (hh - l) (m - l), ?_, .slice _ _ _ _ _ hA (.inl ⟨rfl, by omega⟩)⟩
            simp [execOp, ho, e1, Instr.sliceAt, Instr.slice, run_underlying hu, hb, sizeOf, typeInfo, hie]
            split <;> simp [Addr.add_mid, Nat.add_assoc]
          · have h0 : len = 0 ∧ cap' = 0 := by
              rcases hcr with ⟨_, h⟩ | h | h
              · exact absurd h ha
              · exact ⟨h.1, h.2.2⟩
              · exact absurd h hbig
            obtain ⟨rfl, rfl⟩ := h0
            have hm0 : m = 0 := Nat.le_zero.1 hc.1
            have hh0 : hh = 0 := Nat.le_zero.1 (Nat.le_trans hc.2.1 (Nat.le_of_eq hm0))
            have hl0 : l = 0 := Nat.le_zero.1 (Nat.le_trans hc.2.2.1 (Nat.le_of_eq hh0))
            subst hm0; subst hh0; subst hl0
            refine ⟨.slice ad 0 0, by simp [execOp, ho, e1, Instr.sliceAt, Instr.slice, run_underlying hu, hb, sizeOf, typeInfo, hie], .void _ _ _ hA⟩
        · cases h
      · rename_i hk
        split at h
        · rename_i hmx
          subst hmx
          split at h
          · rename_i cells es more rw flat hrd
            split at h
            · rename_i hc
              cases h
              refine StepOK.value fun F A ψ env1 H1 a w hr he hD => ?_
              have hrd1 : rd H1 id = some (.row cells es more rw flat) := by rw [hD id (by simp), hrd]
              have h1 := opd hr he (x := x) (hops _ (.inl rfl))
              rw [hv] at h1
              obtain ⟨hA, ad, cap', e1, _, _, hcr⟩ := h1.slice_inv
              have hcap : cap = 0 ∧ 0 < len := by omega
              obtain ⟨rfl, hlen⟩ := hcap
              obtain ⟨_, hes, _⟩ := hr.heap.live id _ hrd1
              have hle : (len ≤ cap' ∧ off + cap' * (ψ id).es = (ψ id).tot) ∧ ad = some ⟨(ψ id).blk, (ψ id).off + off, none⟩ := by
                rcases hcr with ⟨h | h, ha⟩ | h | h
                · omega
                · exact ⟨⟨h.2.2.1, h.2.2.2⟩, ha⟩
                · omega
                · exact absurd h hbig
              obtain ⟨hle, rfl⟩ := hle
              have hes : (ψ id).es = es := hes
              have b2 := bval_spec hr (fun y hy => he y (hops y (.inr (.inr (.inl hy))))) hhi
              have b3 := bval_spec hr (fun y hy => he y (hops y (.inr (.inl hy)))) hlo
              have hb := run_bounds (P := P) true len cap' (lo.map a.eval) (hi.map a.eval) none l hh cap' (.inl ⟨rfl, rfl⟩) (Nat.le_refl _) (b2.imp_left fun h => ⟨h.1, h.2, rfl⟩) (by omega) b3 (by omega) w
              refine ⟨.slice (some ⟨(ψ id).blk, (ψ id).off + (off + l * ie.size), none⟩) (hh - l) (cap' - l), ?_, .slice _ _ _ _ _ hA (.inr ⟨rfl, by omega, by omega, ?_⟩)⟩
              · have : ¬ cap' = l := by omega
                simp [execOp, ho, e1, Instr.sliceAt, Instr.slice, run_underlying hu, hb, sizeOf, typeInfo, hie, this, Addr.add_mid, Nat.add_assoc]
              · rw [← hle.2, hes, hc.1, Nat.add_assoc, ← Nat.add_mul]
                congr 2; omega
            · rename_i hc0
              split at h
              · rename_i hc
                cases h
                refine StepOK.value fun F A ψ env1 H1 a w hr he _ => ?_
                have h1 := opd hr he (x := x) (hops _ (.inl rfl))
                rw [hv] at h1
                obtain ⟨hA, ad, cap', e1, hle, _, _⟩ := h1.slice_inv
                have b2 := bval_spec hr (fun y hy => he y (hops y (.inr (.inr (.inl hy))))) hhi
                have b3 := bval_spec hr (fun y hy => he y (hops y (.inr (.inl hy)))) hlo
                have hb := run_bounds (P := P) true len cap' (lo.map a.eval) (hi.map a.eval) none l hh cap' (.inl ⟨rfl, rfl⟩) (Nat.le_refl _) (b2.imp_left fun h => ⟨h.1, h.2, rfl⟩) (by omega) b3 (by omega) w
                refine ⟨.slice (if cap' = l then ad else ad.map (·.add (l * ie.size))) 0 (cap' - l), ?_, .empty _ _⟩
                simp [execOp, ho, e1, Instr.sliceAt, Instr.slice, run_underlying hu, hb, sizeOf, typeInfo, hie, hc.2]
              · cases h
          · cases h
        · rename_i hmx
          split at h
          · rename_i hc
            cases h
            refine StepOK.value fun F A ψ env1 H1 a w hr he _ => ?_
            have h1 := opd hr he (x := x) (hops _ (.inl rfl))
            rw [hv] at h1
            obtain ⟨hA, ad, cap', e1, hle, e0, hcr⟩ := h1.slice_inv
            have b1 := bval_spec hr (fun y hy => he y (hops y (.inr (.inr (.inr hy))))) hm
            have b2 := bval_spec hr (fun y hy => he y (hops y (.inr (.inr (.inl hy))))) hhi
            have b3 := bval_spec hr (fun y hy => he y (hops y (.inr (.inl hy)))) hlo
            have hmx' : mx.map a.eval ≠ none := by cases mx <;> simp_all
            have hb := run_bounds (P := P) true len cap' (lo.map a.eval) (hi.map a.eval) (mx.map a.eval) l hh m (.inr (b1.resolve_left fun h => hmx' h.1)) (by omega) (b2.imp_left fun h => ⟨h.1, h.2, opt_hi (.inr hc.2.2.2) h.1⟩) hc.2.1 b3 hc.2.2.1 w
            by_cases ha : ad = some ⟨(ψ id).blk, (ψ id).off + off, none⟩
            · subst ha
              refine ⟨.slice (some ⟨(ψ id).blk, (ψ id).off + (if m = l then off else off + l * ie.size), none⟩) (hh - l) (m - l), ?_, .slice _ _ _ _ _ hA (.inl ⟨rfl, by omega⟩)⟩
              simp [execOp, ho, e1, Instr.sliceAt, Instr.slice, run_underlying hu, hb, sizeOf, typeInfo, hie]
              split <;> simp [Addr.add_mid, Nat.add_assoc]
            · have h0 : len = 0 := by
                rcases hcr with ⟨_, h⟩ | h | h
                · exact absurd h ha
                · exact h.1
                · exact e0.resolve_right ha
              subst h0
              have hm0 : m = 0 := Nat.le_zero.1 hc.1
              have hh0 : hh = 0 := Nat.le_zero.1 (Nat.le_trans hc.2.1 (Nat.le_of_eq hm0))
              have hl0 : l = 0 := Nat.le_zero.1 (Nat.le_trans hc.2.2.1 (Nat.le_of_eq hh0))
              subst hm0; subst hh0; subst hl0
              refine ⟨.slice ad 0 0, by simp [execOp, ho, e1, Instr.sliceAt, Instr.slice, run_underlying hu, hb, sizeOf, typeInfo, hie], .void _ _ _ hA⟩
          · cases h
    · cases h
  · rename_i elem cap hu hv
    split at h
    · rename_i ie hie hm hhi hlo
      split at h
      · rename_i hc
        cases h
        refine StepOK.value fun F A ψ env1 H1 a w hr he _ => ?_
        have h1 := opd hr he (x := x) (hops _ (.inl rfl))
        rw [hv] at h1
        have b1 := bval_spec hr (fun y hy => he y (hops y (.inr (.inr (.inr hy))))) hm
        have b2 := bval_spec hr (fun y hy => he y (hops y (.inr (.inr (.inl hy))))) hhi
        have b3 := bval_spec hr (fun y hy => he y (hops y (.inr (.inl hy)))) hlo
        obtain ⟨_, ad, c, e1, e2⟩ := h1.nil_inv
        by_cases hmx : mx = none
        · subst hmx
          have hb := run_bounds (P := P) true 0 c (lo.map a.eval) (hi.map a.eval) none 0 0 c (.inl ⟨rfl, rfl⟩) (Nat.le_refl _) (b2.imp_left fun h => ⟨h.1, h.2, rfl⟩) (Nat.zero_le _) b3 (Nat.le_refl _) w
          refine ⟨.slice (if c = 0 then ad else ad.map (·.add 0)) 0 c, by simp [execOp, ho, e1, Instr.sliceAt, Instr.slice, run_underlying hu, hb, sizeOf, typeInfo, hie], ?_⟩
          by_cases hcap : cap = 1
          · subst hcap; exact .empty _ _
          · obtain ⟨rfl, rfl, rfl⟩ := e2 hcap; exact .atom _ rfl
        · have hmx' : mx.map a.eval ≠ none := by cases mx <;> simp_all
          have hb := run_bounds (P := P) true 0 c (lo.map a.eval) (hi.map a.eval) (mx.map a.eval) 0 0 0 (.inr (b1.resolve_left fun h => hmx' h.1)) (Nat.zero_le _) (b2.imp_left fun h => ⟨h.1, h.2, opt_hi hc h.1⟩) (Nat.le_refl _) b3 (Nat.le_refl _) w
          refine ⟨.slice ad 0 0, by simp [execOp, ho, e1, Instr.sliceAt, Instr.slice, run_underlying hu, hb, sizeOf, typeInfo, hie], ?_⟩
          by_cases hcap : cap = 1
          · subst hcap; exact .empty _ _
          · obtain ⟨rfl, rfl, rfl⟩ := e2 hcap; exact .atom _ rfl
      · cases h
    · cases h
  · cases h

end
end
end Go.Vm
