/- What all laws of this seat stand on: the callees of Go's library, the listed variables, and that what is reckoned is what the program answers. Conditions: the world is one in which the listed variables hold what the row says. -/
import Derived.Test.YtagjgpkomcmkbaaGreatDoorIrT
import Derived.Test.YtagjgpkomcmkbaaGreatDoorEcoreZs
import Derived.Test.YtagjgpkomcmkbaaGreatDoorShelf
import Derived.Test.YtagjgpkomcmkbaaGreatDoorRows
import Derived.KernelRfl
import Derived.ProofKit
import Derived.LaidMore
import Derived.Stop.Joined
import Derived.SliceStrings
import Derived.HandedShaped
set_option maxRecDepth 100000
namespace Go.Proofs.YtagjgpkomcmkbaaGreatDoor
open Go Go.Scr

/-- What the two callees in Go's library answer. -/
def natT : NatF := fun f args s => match args with
  | [.str a, .str b] => bif Nat.beq f 113 && Nat.blt a.length 4294967281 then some (.bool (Lib.contains a b), s) else none
  | [.str a, .int .u8 c] => bif Nat.beq f 114 then some (.int .i64 (Lib.indexByte a c.toNat.toUInt8), s) else none
  | _ => none

/-- A run that begins in a world. -/
structure Start (X : Ctx) : Prop where
  prog : X.P = Tryz.prog
  glob : X.G = gT
  most : ∃ m, X.w0.cell? ⟨9, 0, none⟩ = some (.int .i64 m)
  room : 9 < X.B0

theorem enters113 : Enters Tryz.prog 113 := fun args w => by
  have hname : (Tryz.f113.name == "runtime.NumGoroutine") = false := by kernel_rfl
  have hbody : ∃ c, Tryz.f113.body = some c := ⟨_, rfl⟩
  obtain ⟨c, hc⟩ := hbody
  simp [Go.callFunc, Tryz.func113, ne_of_beq_false hname, hc]
theorem enters114 : Enters Tryz.prog 114 := fun args w => by
  have hname : (Tryz.f114.name == "runtime.NumGoroutine") = false := by kernel_rfl
  have hbody : ∃ c, Tryz.f114.body = some c := ⟨_, rfl⟩
  obtain ⟨c, hc⟩ := hbody
  simp [Go.callFunc, Tryz.func114, ne_of_beq_false hname, hc]

theorem one_arg {w : World} {I : Imm} {x y : AV} {cargs : Array Value} (h : VRels w I [x, y] cargs) : ∃ u v, cargs = #[u, v] ∧ VRel w I x u ∧ VRel w I y v := by
  obtain ⟨h1, h2⟩ := h
  obtain ⟨l⟩ := cargs
  match l, h1 with
  | [u, v], _ => exact ⟨u, v, rfl, by simpa using h2 0 x rfl, by simpa using h2 1 y rfl⟩

theorem nat_ok {X : Ctx} (hX : Start X) : NatOk X natT := by
  intro f args s v s' h
  unfold natT at h
  split at h
  · rename_i a b
    cases hc : (Nat.beq f 113 && Nat.blt a.length 4294967281) with
    | false => rw [hc] at h; simp at h
    | true =>
      rw [hc] at h
      simp only [cond_true, Option.some.injEq, Prod.mk.injEq] at h
      obtain ⟨rfl, rfl⟩ := h
      simp only [Bool.and_eq_true, Nat.blt_eq] at hc
      obtain rfl : f = 113 := Nat.eq_of_beq_eq_true hc.1
      refine ⟨Nat.le_refl _, fun m φ σ hsim I w cargs hr hv => ?_⟩
      obtain ⟨u1, u2, rfl, h1, h2⟩ := one_arg (by simpa [ren] using hv)
      obtain ⟨s1, e1, rfl⟩ := h1.str_inv
      obtain ⟨s2, e2, rfl⟩ := h2.str_inv
      subst e1 e2
      obtain ⟨mm, hm⟩ := hX.most
      have hm' : w.cell? ⟨9, 0, none⟩ = some (.int .i64 mm) := by
        rw [← hm]
        simp only [World.cell?, hr.old 9 hX.room]
      have hc2 : s1.size < 4294967281 := by
        have := hc.2
        simpa using this
      rw [hX.prog]
      refine .inl ⟨enters113 _ _, (Tryz.strings_Contains s1 s2 mm w hc2 hm').mono ?_⟩
      rintro e w' ⟨rfl, rfl⟩
      exact ⟨_, _, I, σ, rfl, ⟨m, Nm.agree.refl _ _, rfl, hsim⟩, .bool _, hr, Ext.refl _ _⟩
  · rename_i a c
    cases hc : Nat.beq f 114 with
    | false => rw [hc] at h; simp at h
    | true =>
      rw [hc] at h
      simp only [cond_true, Option.some.injEq, Prod.mk.injEq] at h
      obtain ⟨rfl, rfl⟩ := h
      obtain rfl : f = 114 := Nat.eq_of_beq_eq_true hc
      refine ⟨Nat.le_refl _, fun m φ σ hsim I w cargs hr hv => ?_⟩
      obtain ⟨u1, u2, rfl, h1, h2⟩ := one_arg (by simpa [ren] using hv)
      obtain ⟨s1, e1, rfl⟩ := h1.str_inv
      obtain rfl := h2.int_inv
      subst e1
      rw [hX.prog]
      refine .inl ⟨enters114 _ _, (Tryz.strings_IndexByte s1 c w).mono ?_⟩
      rintro e w' ⟨rfl, rfl⟩
      exact ⟨_, _, I, σ, rfl, ⟨m, Nm.agree.refl _ _, rfl, hsim⟩, .int _ _, hr, Ext.refl _ _⟩
  · simp at h

theorem nat_good : NatGood gT natT := by
  intro f args s r hw hbd h
  clear hbd
  unfold natT at h
  split at h
  · rename_i a b
    cases hc : (Nat.beq f 113 && Nat.blt a.length 4294967281) with
    | false => rw [hc] at h; simp at h
    | true =>
      rw [hc] at h
      simp only [cond_true, Option.some.injEq] at h
      subst h
      exact ⟨hw, rfl, Nat.le_refl _⟩
  · rename_i a c
    cases hc : Nat.beq f 114 with
    | false => rw [hc] at h; simp at h
    | true =>
      rw [hc] at h
      simp only [cond_true, Option.some.injEq] at h
      subst h
      exact ⟨hw, rfl, Nat.le_refl _⟩
  · simp at h

theorem lookup_mem' {α : Type} {b : Nat} {o : α} : ∀ {l : List (Nat × α)}, l.lookup b = some o → (b, o) ∈ l
  | [], h => by simp at h
  | (y, v) :: l, h => by
    simp only [List.lookup_cons] at h
    by_cases hy : b = y
    · subst hy
      simp only [beq_self_eq_true, Option.some.injEq] at h
      subst h
      simp
    · have : (b == y) = false := by simpa using hy
      rw [this] at h
      exact List.mem_cons_of_mem _ (lookup_mem' h)

theorem irT_low {X : Ctx} (hX : X.P = Tryz.prog) : ∀ f lc rvs k, irT f = some (lc, rvs, k) → Nonempty (Lowered X f lc rvs k) := fun _ _ _ _ h => irT_all X hX _ (lookup_mem' h)
theorem irT_ok : ∀ f lc rvs k, irT f = some (lc, rvs, k) → okLC gT lc = true := fun _ _ _ _ h => List.all_eq_true.1 irT_okB _ (lookup_mem' h)

theorem mixed : Tryz.prog.follows .mixedOrders = true := Tryz.checked.mixed

/-- WHAT IS RECKONED OF A CALL WITH CLOSED ARGUMENTS IS WHAT THE PROGRAM ANSWERS, whatever lies about. -/
theorem reckoned {X : Ctx} (hX : Start X) {n k : Nat} {f : FuncId} {args : List AV} {v : AV} (hargs : bdL 0 args = true) (h : (callG irT gT natT n k false (.fn f) args ⟨[], [], 0⟩).map (·.1) = some v) (σ : AH) :
    ECalls X f args σ fun v' σ' => (∃ m, v' = ren m v) ∧ σ.le σ' := by
  simp only [Option.map_eq_some_iff] at h
  obtain ⟨⟨v0, s'⟩, h, rfl⟩ := h
  rw [callG_eq] at h
  have h1 := (callF_eq irT_ok nat_good k false (.fn f) args ⟨[], [], 0⟩ _ WF.empty hargs h (fun l hl => by simp at hl)).1
  have hs := (callS_sound (n := n) (by rw [hX.prog]; exact mixed) hX.glob (irT_low hX.prog) (nat_ok hX) k).1 _ _ _ _ _ h1
  have hsim : Sim nm0 σ ⟨[], [], 0⟩ σ := ⟨fun b o hb => by simp at hb, fun b hb => by simp at hb, fun b b' hb => by simp [SH.live] at hb, fun b o hb => ⟨hb, fun x hx => by simp [SH.live] at hx⟩, fun b e hb => ⟨hb, fun x hx => by simp [SH.live] at hx⟩⟩
  have hc : ECalls X f (args.map (ren nm0)) σ _ := hs.2 nm0 σ σ hsim
  rw [← renL_map, renL_closed nm0 hargs] at hc
  refine hc.mono fun v' σ' hq => ?_
  obtain ⟨m', _, rfl, hs'⟩ := hq
  exact ⟨⟨m', rfl⟩, fun b o hb => (hs'.fheap b o hb).1, fun b e hb => (hs'.ftip b e hb).1⟩

end Go.Proofs.YtagjgpkomcmkbaaGreatDoor
