/- Each quiet instruction answers what the model's operation answers: part 4 of a program logic over the model. No condition but that the operation was lowered to it. -/
import Derived.Test.YtagjgpkomcmkbaaGreatDoorEcoreCa
import Derived.Laws.StructEq
import Derived.Laws.Slices
import Derived.Laws.Strings
import Derived.Laws.Rows
namespace Go.Scr
open Go

theorem absS_sound {v : Value} {a : AV} (h : absS v = some a) (w : World) (I : Imm) : VRel w I a v := by
  unfold absS at h
  split at h <;> simp only [Option.some.injEq, reduceCtorEq] at h <;> subst h
  · exact .bool _
  · exact .int _ _
  · exact .str _ _ rfl
  · exact .nilptr
  · exact .nil
  · exact .map _
  · exact .nilFunc
  · exact .nilIface

theorem absL_sound : ∀ {vs : List Value} {xs : List AV}, absL vs = some xs → ∀ (w : World) (I : Imm), xs.length = vs.length ∧ ∀ i c, xs[i]? = some c → VRel w I c (vs.getD i undef)
  | [], xs, h, w, I => by
    simp only [absL, Option.some.injEq] at h
    subst h
    exact ⟨rfl, fun i c hc => by simp at hc⟩
  | v :: vs, xs, h, w, I => by
    simp only [absL] at h
    split at h
    · rename_i x ys hx hys
      simp only [Option.some.injEq] at h
      subst h
      obtain ⟨h1, h2⟩ := absL_sound hys w I
      refine ⟨by simp [h1], fun i c hc => ?_⟩
      rcases i with _ | i
      · simp only [List.getElem?_cons_zero, Option.some.injEq] at hc
        subst hc
        simpa using absS_sound hx w I
      · simpa using h2 i c (by simpa using hc)
    · simp at h

theorem absV_sound {v : Value} {a : AV} (h : absV v = some a) (w : World) (I : Imm) : VRel w I a v := by
  unfold absV at h
  split at h
  · rename_i cs
    simp only [Option.map_eq_some_iff] at h
    obtain ⟨xs, hx, rfl⟩ := h
    obtain ⟨h1, h2⟩ := absL_sound hx w I
    exact .agg xs cs (by simpa using h1) fun i c hc => by simpa using h2 i c hc
  · exact absS_sound h w I

theorem opd_sound {X : Ctx} {I : Imm} {σ : AH} {w : World} {a : AAct} {A : Act} (hr : Rel X I σ w) (ha : ARel w I a A) {x : Operand} {y : Opd} (h : lowOpd x = some y) :
    VRel w I (ev X a y) (A.eval x) := by
  unfold lowOpd at h
  split at h
  · simp only [Option.some.injEq] at h; subst h; exact ha.tmps _
  · simp only [Option.map_eq_some_iff] at h
    obtain ⟨v, hv, rfl⟩ := h
    exact absV_sound hv w I
  · rename_i g
    simp only [Option.some.injEq] at h; subst h
    simp only [ev, Act.eval]
    cases hg : X.G g with
    | none => exact .undef _
    | some v =>
      obtain ⟨h1, cv, h2, h3⟩ := hr.glob g v hg
      exact .rptr [v] g 0 (fun _ => cv) (fun i c hc => by
        rcases i with _ | i
        · simp only [List.getElem?_cons_zero, Option.some.injEq] at hc; subst hc; exact h3
        · simp at hc) (fun i hi => by
        obtain rfl : i = 0 := by simpa using hi
        exact ⟨h1, h2⟩)
  · simp only [Option.some.injEq] at h; subst h
    exact .func _ [] [] #[] #[] rfl rfl (fun i c hc => by simp at hc) (fun i c hc => by simp at hc)

theorem opds_sound {X : Ctx} {I : Imm} {σ : AH} {w : World} {a : AAct} {A : Act} (hr : Rel X I σ w) (ha : ARel w I a A) : ∀ {xs : List Operand} {ys : List Opd}, lowOpds xs = some ys →
    VRels w I (ys.map (ev X a)) (xs.map A.eval).toArray
  | [], ys, h => by
    simp only [lowOpds, Option.some.injEq] at h
    subst h
    exact ⟨rfl, fun i c hc => by simp at hc⟩
  | x :: xs, ys, h => by
    simp only [lowOpds] at h
    split at h
    · rename_i y ys' hy hys
      simp only [Option.some.injEq] at h
      subst h
      obtain ⟨h1, h2⟩ := opds_sound hr ha hys
      refine ⟨by simpa using h1, fun i c hc => ?_⟩
      rcases i with _ | i
      · simp only [List.map_cons, List.getElem?_cons_zero, Option.some.injEq] at hc
        subst hc
        simpa using opd_sound hr ha hy
      · have := h2 i c (by simpa using hc)
        simpa using this
    · simp at h

/- Reading a value's form off the abstract one. -/
section inv
variable {w : World} {I : Imm} {v : Value}
theorem VRel.bool_inv {b : Bool} (h : VRel w I (.bool b) v) : v = .bool b := by cases h; rfl
theorem VRel.int_inv {k : IntKind} {n : Int} (h : VRel w I (.int k n) v) : v = .int k n := by cases h; rfl
theorem VRel.str_inv {l : List UInt8} (h : VRel w I (.str l) v) : ∃ s : ByteArray, s.data.toList = l ∧ v = .string s := by cases h; exact ⟨_, ‹_›, rfl⟩
theorem VRel.ptr_inv {b o : Nat} (h : VRel w I (.ptr b o) v) : v = .pointer (some ⟨b, o, none⟩) := by cases h; rfl
theorem VRel.nilptr_inv (h : VRel w I .nilptr v) : v = .pointer none := by cases h; rfl
theorem VRel.nil_inv (h : VRel w I .nil v) : v = .slice none 0 0 := by cases h; rfl
theorem VRel.map_inv {r : Option Nat} (h : VRel w I (.map r) v) : v = .map r := by cases h; rfl
theorem VRel.rptr_inv {cs : List AV} (h : VRel w I (.rptr cs) v) : ∃ (B off : Nat) (cv : Nat → Value), v = .pointer (some ⟨B, off, none⟩) ∧ (∀ i c, cs[i]? = some c → VRel w I c (cv i)) ∧
    (∀ i, i < cs.length → I B (off + i) ∧ w.cell? ⟨B, off + i, none⟩ = some (cv i)) := by cases h with | rptr _ B off cv h1 h2 => exact ⟨B, off, cv, rfl, h1, h2⟩
theorem VRel.list_inv {z : Nat} {tok : Option (Nat × Nat)} {xs : List AV} (h : VRel w I (.list z tok xs) v) : ∃ (B off cap : Nat) (cv : Nat → Value), v = .slice (some ⟨B, off, none⟩) xs.length cap ∧
    (∀ x ∈ xs, x.cells.length = z) ∧ (∀ i c, (AV.flat xs)[i]? = some c → VRel w I c (cv i)) ∧
    (∀ i, i < xs.length * z → I B (off + i) ∧ w.cell? ⟨B, off + i, none⟩ = some (cv i)) ∧ xs.length ≤ cap ∧
    (∀ t, tok = some t → t = (B, off + xs.length * z) ∧ ∃ e n, w.shape? B = some (e, n) ∧ off + cap * z ≤ n) := by
  cases h with | list _ _ _ B off cap cv hz hv hc hcap ht => exact ⟨B, off, cap, cv, rfl, hz, hv, hc, hcap, ht⟩
theorem VRel.slice_inv {z b o len : Nat} (h : VRel w I (.slice z b o len) v) : ∃ cap, v = .slice (some ⟨b, o, none⟩) len cap ∧ len ≤ cap ∧ ∃ e n, w.shape? b = some (e, n) ∧ o + cap * z ≤ n := by
  cases h with | slice _ _ _ _ cap h1 h2 => exact ⟨cap, rfl, h1, h2⟩
theorem VRel.agg_inv {xs : List AV} (h : VRel w I (.agg xs) v) : ∃ vs, v = .agg vs ∧ VRels w I xs vs := by cases h with | agg _ vs h1 h2 => exact ⟨vs, rfl, h1, h2⟩
theorem VRel.tuple_inv {xs : List AV} (h : VRel w I (.tuple xs) v) : ∃ vs, v = .tuple vs ∧ VRels w I xs vs := by cases h with | tuple _ vs h1 h2 => exact ⟨vs, rfl, h1, h2⟩
theorem VRel.yield_inv {l : Nat} (h : VRel w I (.yield l) v) : v = .func (.yield l) #[] #[] := by cases h; rfl
theorem VRel.func_inv {f : FuncId} {xs ys : List AV} (h : VRel w I (.func f xs ys) v) : ∃ vs us, v = .func (.func f) vs us ∧ VRels w I xs vs ∧ VRels w I ys us := by
  cases h with | func _ _ _ vs us h1 h2 h3 h4 => exact ⟨vs, us, rfl, ⟨h1, h3⟩, ⟨h2, h4⟩⟩
end inv

theorem Addr.add_none (b o n : Nat) : (⟨b, o, none⟩ : Addr).add n = ⟨b, o + n, none⟩ := by
  unfold Addr.add
  split
  · next h => subst h; rfl
  · rfl

/-- Lists of cells: a part of them. -/
theorem VRels.part {w : World} {I : Imm} {xs : List AV} {vs : Array Value} (h : VRels w I xs vs) (off n : Nat) (hn : off + n ≤ xs.length) :
    VRels w I ((xs.drop off).take n) (vs.extract off (off + n)) := by
  obtain ⟨h1, h2⟩ := h
  refine ⟨by simp; omega, fun i c hc => ?_⟩
  rw [List.getElem?_take] at hc
  split at hc
  · rw [List.getElem?_drop] at hc
    have := h2 _ _ hc
    have hi : off + i < vs.size := by
      have := (List.getElem?_eq_some_iff.1 hc).1
      omega
    have e : (vs.extract off (off + n)).getD i undef = vs.getD (off + i) undef := by
      rw [Array.getD_eq_getD_getElem?, Array.getD_eq_getD_getElem?, Array.getElem?_extract, if_pos (by omega)]
    rw [e]
    exact this
  · simp at hc

end Go.Scr
