/- Texts, read: the reference. -/
import Derived.Test.YtaigknknfaeajaaGreatDoorZM
import Derived.Test.YtaigknknfaeajaaGreatDoorZR
import Derived.Test.YtaigknknfaeajaaGreatDoorZK
open Go Go.Vm Go.Proofs Sp
namespace Sp
noncomputable section
/-- What the cells say. -/
def unS (l : List Go.Value) : List ByteArray := l.map fun v => match v with
  | .string s => s
  | _ => ⟨#[]⟩
def unZ (l : List Go.Value) : List Int := l.map fun v => match v with
  | .int _ x => x
  | _ => 0
def unK : List Go.Value → List (Int × ByteArray)
  | .int _ d :: .string k :: r => (d, k) :: unK r
  | _ => []
/-- The words of a line. -/
def lw (L : List ByteArray) (i : Nat) : List ByteArray := spI (L.getD i ⟨#[]⟩) 32
/-- Whether the words of the first line have their form. -/
def hdO (ws : List ByteArray) : Bool := decide (ws.length = 2) && wd ws 0 == sSec && !(wd ws 1 == ⟨#[]⟩)
/-- What the first lines say. -/
def stL (L : List ByteArray) : Nat → ByteArray × List Int × List (Int × ByteArray)
  | 0 => (⟨#[]⟩, [], [])
  | i + 1 => if i = 0 then (wd (lw L 0) 1, [], []) else ((stL L i).1, pdZ (stL L i).2.1 (stL L i).2.2 (lw L i), pdK (stL L i).2.2 (lw L i))
def stN (L : List ByteArray) (i : Nat) : ByteArray := (stL L i).1
def stZ (L : List ByteArray) (i : Nat) : List Int := (stL L i).2.1
def stK (L : List ByteArray) (i : Nat) : List (Int × ByteArray) := (stL L i).2.2
def stn (L : List ByteArray) (i : Nat) : Nat := (stZ L i).length / 2
def stk (L : List ByteArray) (i : Nat) : Nat := (stK L i).length
def okL (L : List ByteArray) (i : Nat) : Bool := if i = 0 then hdO (lw L 0) else pdO (stK L i) (lw L i)
/-- The first line that has not its form, up to a number of lines. -/
def fB (L : List ByteArray) : Nat → Nat → Nat
  | 0, i => i
  | k + 1, i => if okL L i = true then fB L k (i + 1) else i
def prI (L : List ByteArray) : Nat := fB L (L.length - 1) 0
def prE (L : List ByteArray) : Int :=
  if prI L < L.length - 1 then 25 else if (!(L.getD (L.length - 1) ⟨#[]⟩ == ⟨#[]⟩) || decide (L.length - 1 = 0)) = true then 25
  else secE (stN L (L.length - 1)) (stZ L (L.length - 1)) (stn L (L.length - 1)) (stK L (L.length - 1)) (stk L (L.length - 1))
def psL (s : ByteArray) : List ByteArray := spI s 10
def psE (s : ByteArray) : Int := if 4096 < s.size then 26 else prE (psL s)
def psA (s : ByteArray) : Int := if psE s = 0 then 0 else if 4096 < s.size then 0 else (prI (psL s) : Int)
def psN (s : ByteArray) : ByteArray := gqS (psE s) (stN (psL s) ((psL s).length - 1))
def psZ (s : ByteArray) : List Int := gqL (psE s) (stZ (psL s) ((psL s).length - 1))
def psK (s : ByteArray) : List (Int × ByteArray) := gqK (psE s) (stK (psL s) ((psL s).length - 1))
def psn (s : ByteArray) : Nat := gqN (psE s) (stn (psL s) ((psL s).length - 1))
def psk (s : ByteArray) : Nat := gqN (psE s) (stk (psL s) ((psL s).length - 1))
end
end Sp
namespace Qq
noncomputable section
noncomputable def nilR : Option AObj := some (.row [.string ⟨#[]⟩, .slice none 0 0, .slice none 0 0] 0 false true true)
noncomputable def secR5 (nm : ByteArray) (i n j k : Nat) : Option AObj := some (.row [.string nm, .slice (some ⟨i, 0, none⟩) n 0, .slice (some ⟨j, 0, none⟩) k 0] 0 false true false)
theorem unS_strs (ws : List ByteArray) : unS (strs ws) = ws := by
  rw [unS, strs, List.map_map]
  exact List.map_id'' (fun _ => rfl) ws
theorem unZ_ints (zs : List Int) : unZ (ints zs) = zs := by
  rw [unZ, ints, List.map_map]
  exact List.map_id'' (fun _ => rfl) zs
theorem unK_acs : ∀ ks : List (Int × ByteArray), unK (acs ks) = ks
  | [] => rfl
  | a :: r => by rw [acs, unK, unK_acs r]
theorem fB_skip {L : List ByteArray} : ∀ (m k i : Nat), (∀ j, i ≤ j → j < i + m → okL L j = true) → m ≤ k → fB L k i = fB L (k - m) (i + m)
  | 0, k, i, _, _ => rfl
  | m + 1, k, i, h, hk => by
    obtain ⟨k', rfl⟩ : ∃ k', k = k' + 1 := ⟨k - 1, by omega⟩
    rw [fB, if_pos (h i (Nat.le_refl _) (by omega)), fB_skip m k' (i + 1) (fun j h1 h2 => h j (by omega) (by omega)) (by omega)]
    congr 1 <;> omega
theorem prI_bad {L : List ByteArray} {i : Nat} (h : ∀ j, j < i → okL L j = true) (hi : i < L.length - 1) (hb : okL L i = false) : prI L = i := by
  rw [prI, fB_skip i _ 0 (fun j _ h2 => h j (by omega)) (by omega), Nat.zero_add]
  obtain ⟨k', hk⟩ : ∃ k', L.length - 1 - i = k' + 1 := ⟨L.length - 1 - i - 1, by omega⟩
  rw [hk, fB, if_neg (by rw [hb]; decide)]
theorem prI_all {L : List ByteArray} (h : ∀ j, j < L.length - 1 → okL L j = true) : prI L = L.length - 1 := by
  rw [prI, fB_skip (L.length - 1) _ 0 (fun j _ h2 => h j (by omega)) (Nat.le_refl _), Nat.sub_self, fB, Nat.zero_add]
theorem st_one (L : List ByteArray) : stN L 1 = wd (lw L 0) 1 ∧ stZ L 1 = [] ∧ stK L 1 = [] := by
  rw [stN, stZ, stK, stL, if_pos rfl]; exact ⟨rfl, rfl, rfl⟩
theorem st_more {L : List ByteArray} {i : Nat} (h : i ≠ 0) : stN L (i + 1) = stN L i ∧ stZ L (i + 1) = pdZ (stZ L i) (stK L i) (lw L i) ∧ stK L (i + 1) = pdK (stK L i) (lw L i) := by
  refine ⟨?_, ?_, ?_⟩ <;> simp only [stN, stZ, stK, stL, if_neg h]
theorem st_zero (L : List ByteArray) : stN L 0 = ⟨#[]⟩ ∧ stZ L 0 = [] ∧ stK L 0 = [] ∧ stn L 0 = 0 ∧ stk L 0 = 0 := by
  have a : stN L 0 = ⟨#[]⟩ := by simp only [stN, stL]
  have b : stZ L 0 = [] := by simp only [stZ, stL]
  have c : stK L 0 = [] := by simp only [stK, stL]
  refine ⟨a, b, c, ?_, ?_⟩
  · rw [stn, b]; rfl
  · rw [stk, c]; rfl
theorem st_even (L : List ByteArray) : ∀ i, (stZ L i).length = stn L i * 2 ∧ stn L i ≤ i ∧ stk L i ≤ i
  | 0 => by
    obtain ⟨_, b, _, d, e⟩ := st_zero L
    rw [b, d, e]; exact ⟨rfl, Nat.le_refl _, Nat.le_refl _⟩
  | i + 1 => by
    obtain ⟨a, b, c⟩ := st_even L i
    by_cases h : i = 0
    · subst h
      obtain ⟨_, e1, e2⟩ := st_one L
      rw [stn, stk, e1, e2]; exact ⟨rfl, by simp, by simp⟩
    · obtain ⟨_, e1, e2⟩ := st_more (L := L) h
      have hz : (stZ L (i + 1)).length = (stZ L i).length ∨ (stZ L (i + 1)).length = (stZ L i).length + 2 := by
        rw [e1, pdZ]; split
        · exact .inr (by rw [List.length_append]; rfl)
        · exact .inl rfl
      have hk : (stK L (i + 1)).length ≤ (stK L i).length + 1 := by
        rw [e2, pdK]; split
        · rw [List.length_append]; simp
        · omega
      rw [stk] at c
      rw [stn, stk]
      exact ⟨by omega, by omega, by omega⟩
theorem stn_more {L : List ByteArray} {i : Nat} (h : i ≠ 0) : pdN (stn L i) (stK L i) (lw L i) = stn L (i + 1) ∧ pdM (stk L i) (stK L i) (lw L i) = stk L (i + 1) := by
  obtain ⟨_, e1, e2⟩ := st_more (L := L) h
  have a := (st_even L i).1
  constructor
  · show _ = (stZ L (i + 1)).length / 2
    rw [pdN, e1, pdZ]
    split
    · rw [List.length_append, a, show [drV (wd (lw L i) 1), drV (wd (lw L i) 2)].length = 2 from rfl]; omega
    · rw [a]; omega
  · show _ = (stK L (i + 1)).length
    rw [pdM, e2, pdK, stk]
    split
    · rw [List.length_append]; rfl
    · rfl
theorem psL_at (s : ByteArray) (i : Nat) : ((psL s).getD i ⟨#[]⟩).size ≤ s.size := by
  rw [psL, spI, List.getD_eq_getElem?_getD, List.getElem?_map]
  have h := spl_small (Int.toNat 10).toUInt8 s.data.toList i
  rw [List.getD_eq_getElem?_getD] at h
  cases hh : (spl (Int.toNat 10).toUInt8 s.data.toList)[i]? with
  | none => exact Nat.zero_le _
  | some a =>
    rw [hh] at h
    rw [size_len s]
    exact h
theorem psL_len (s : ByteArray) : 1 ≤ (psL s).length ∧ (psL s).length ≤ s.size + 1 := by
  rw [psL, spI, List.length_map, spl_len, size_len]
  have := List.count_le_length (a := (Int.toNat 10).toUInt8) (l := s.data.toList)
  omega
noncomputable def rpR (s : ByteArray) : Value := .tuple #[.agg #[.string (psN s), .slice (some ⟨0, 0, none⟩) (psn s) 0, .slice (some ⟨1, 0, none⟩) (psk s) 0], .int .i64 (psA s), .int .i64 (psE s)]
noncomputable def rpH (s : ByteArray) : Heap := [some (.row (ints (psZ s)) 2 true true true), some (.row (acs (psK s)) 2 true true true)]
theorem rp_bad {s : ByteArray} {a e : Int} (he : psE s = e) (h0 : e ≠ 0) (ha : psA s = a) : Value.tuple #[.agg #[.string ⟨#[]⟩, .slice (some ⟨0, 0, none⟩) 0 0, .slice (some ⟨1, 0, none⟩) 0 0], .int .i64 a, .int .i64 e] = rpR s ∧
    [some (.row [] 2 true true true), some (.row [] 2 true true true)] = rpH s := by
  have h1 : psE s ≠ 0 := by rw [he]; exact h0
  rw [rpR, rpH, psN, psn, psk, psZ, psK, gqS_n h1, gqN_n h1, gqN_n h1, gqL_n h1, gqK_n h1, he, ha]
  exact ⟨rfl, rfl⟩
end
end Qq
