/- Tables of contracts; slots by number; small facts about the machine's integers. -/
import Derived.Test.YtaigknknfaeajaaGreatDoorVmS
namespace Go.Vm
noncomputable section

def Ok (P : Program) (f : FuncId) (orc : Orc) : Prop := ∀ args H ret H', orc args H = some (ret, H') → SmallRes P f args H ret H'
def OkV (P : Program) (f : FuncId) (orc : OrcV) : Prop := ∀ args H ret H' vc, orc args H = some (ret, H', vc) → vc → SmallRes P f args H ret H'

def tab : List (Nat × Orc) → FuncId → Option Orc
  | [], _ => none
  | (g, o) :: r, f => match Nat.beq f g with
    | true => some o
    | false => tab r f

theorem tab_ok {P : Program} : ∀ {l : List (Nat × Orc)}, (∀ p ∈ l, Ok P p.1 p.2) → OrcOK P (tab l)
  | [], _ => fun f orc h => by simp [tab] at h
  | (g, o) :: r, hl => fun f orc h => by
    simp only [tab] at h
    split at h
    · rename_i hb
      cases h
      have : f = g := Nat.eq_of_beq_eq_true hb
      subst this
      exact hl (f, o) (by simp)
    · exact tab_ok (fun p hp => hl p (by simp [hp])) f orc h

theorem all_nil {P : Program} : ∀ p ∈ ([] : List (Nat × Orc)), Ok P p.1 p.2 := by simp
theorem all_cons {P : Program} {f : Nat} {o : Orc} {l : List (Nat × Orc)} (h : Ok P f o) (hl : ∀ p ∈ l, Ok P p.1 p.2) : ∀ p ∈ (f, o) :: l, Ok P p.1 p.2 := by
  intro p hp
  rcases List.mem_cons.1 hp with rfl | hp
  · exact h
  · exact hl p hp

/-- Quotients, and comparisons of structs. -/
def au0 (P : Program) (o : Oper) : Option (Hint P) :=
  match o.op with
  | .binOp .eql _ _ _ _ | .binOp .neq _ _ _ _ => some (hEq P)
  | _ => auDv P o

/-- Calls of listed functions, each by its hint. -/
def auCalls {P : Program} : List (Nat × Hint P) → Oper → Option (Hint P)
  | [], o => au0 P o
  | (g, h) :: r, o =>
    match o.op with
    | .call ⟨.value (.func f), _, _⟩ => match Nat.beq f g with
      | true => some h
      | false => auCalls r o
    | _ => au0 P o

def noK : FuncId → List Bool := fun _ => []

/-- The evaluator under a table. -/
def ctx (P : Program) (l : List (Nat × Orc)) : CallF := evF P (tab l) noK 0 100 1000 20

theorem ctx_ok {P : Program} (hm : P.follows .mixedOrders = true) {l : List (Nat × Orc)} (hl : ∀ p ∈ l, Ok P p.1 p.2) : CallOK P (ctx P l) := evF_ok hm (tab_ok hl) 20

/-- Let go of all slots but some. -/
def keep (n : Nat) (l : List Nat) : List Bool := (List.range n).map fun i => !l.contains i
def slots (n : Nat) (l : List (Nat × Value)) : List Value := (List.range n).map fun i => (l.lookup i).getD poi

theorem wrap_form (x : Int) : IntKind.wrap .i64 x = if x % 18446744073709551616 ≥ 9223372036854775808 then x % 18446744073709551616 - 18446744073709551616 else x % 18446744073709551616 := by
  have h : IntKind.wrap .i64 x = if (true && decide (x % 18446744073709551616 ≥ 9223372036854775808)) = true then x % 18446744073709551616 - 18446744073709551616 else x % 18446744073709551616 := rfl
  rw [h]
  simp only [Bool.true_and, decide_eq_true_eq]

theorem wrap_eq {x : Int} (h1 : -9223372036854775808 ≤ x) (h2 : x < 9223372036854775808) : IntKind.wrap .i64 x = x := by
  rw [wrap_form]
  split <;> omega

end
end Go.Vm
namespace Sp
open Go Go.Vm
noncomputable section
def wh (b : Bool) (e : Int) : Int := if b then e else 0
def wi (n lo hi : Int) : Int := if n < lo ∨ hi < n then 3 else 0
def intsOf : List Value → Option (List Int)
  | [] => some []
  | .int .i64 n :: r => (intsOf r).map (n :: ·)
  | _ => none
def ints (l : List Int) : List Value := l.map (.int .i64)
/-- The first of two that is not 0. -/
def sel (e d : Int) : Int := if e = 0 then d else e
abbrev W (x : Int) : Int := IntKind.wrap .i64 x
/-- The first that is not 0. -/
def fi : List Int → Int
  | [] => 0
  | e :: r => if e = 0 then fi r else e

theorem intsOf_eq : ∀ {cs : List Value} {l : List Int}, intsOf cs = some l → cs = ints l
  | [], l, h => by simp [intsOf] at h; subst h; rfl
  | v :: r, l, h => by
    cases v with
    | int k n =>
      cases k <;> simp only [intsOf] at h <;> first | (obtain ⟨l', h1, rfl⟩ := Option.map_eq_some_iff.1 h; rw [intsOf_eq h1]; rfl) | cases h
    | _ => simp [intsOf] at h

end
end Sp
