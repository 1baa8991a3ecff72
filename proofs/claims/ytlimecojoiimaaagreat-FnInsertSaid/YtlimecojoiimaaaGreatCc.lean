/-
  FnInsert: tables of results.
-/
import Derived.Test.YtlimecojoiimaaaGreatCb
namespace Go.Proofs.YtlimecojoiimaaaGreat
open Go.RowKit

abbrev fLaw : Nat := 3
abbrev fAt : Nat := 6
abbrev fTransact : Nat := 8
def fzI : FuncId → Bool := fun f => Nat.beq f 4 || Nat.beq f 5 || Nat.beq f 7
noncomputable def deepI : CallF := deepC Tryz.prog cloneExt 1000 fzI 60
theorem deepI_ok {f : FuncId} {vs : List V} {hp : Hp} {r : Ret} (h : deepI f vs hp = some r) : FnOK Tryz.prog f vs hp r := deep_ok cloneExt_bodied cloneExt_ok h
def vwN : Vw := fun _ _ _ => none

section
variable {β : Type _}
def normN (m : Nat) (k : Nat → β) : β := match m with
  | 0 => k 0
  | p + 1 => k (p + 1)
def normI (n : Int) (k : Int → β) : β := match n with
  | .ofNat m => normN m fun m => k (.ofNat m)
  | .negSucc m => normN m fun m => k (.negSucc m)
def norSt (l : List UInt8) (k : List UInt8 → β) : β := match l with
  | [] => k []
  | x :: t => norSt t fun t => k (x :: t)
def normB (b : Bool) (k : Bool → β) : β := match b with
  | true => k true
  | false => k false
mutual
def normV : V → (V → β) → β
  | .int a n, k => normI n fun n => k (.int a n)
  | .bool b, k => normB b fun b => k (.bool b)
  | .str s, k => norSt s fun s => k (.str s)
  | .nilp, k => k .nilp
  | .ptr b o, k => normN b fun b => normN o fun o => k (.ptr b o)
  | .sl b o n f, k => normN b fun b => normN o fun o => normN n fun n => normB f fun f => k (.sl b o n f)
  | .dsl n f cs, k => normN n fun n => normB f fun f => normVL cs fun cs => k (.dsl n f cs)
  | .dptr cs, k => normVL cs fun cs => k (.dptr cs)
  | .sld cs, k => normVL cs fun cs => k (.sld cs)
  | .agg cs, k => normVL cs fun cs => k (.agg cs)
  | .tup cs, k => normVL cs fun cs => k (.tup cs)
  | .fn f cs, k => normVL cs fun cs => k (.fn f cs)
  | .nilf, k => k .nilf
  | .lit u, k => k (.lit u)
  | .junk, k => k .junk
def normVL : List V → (List V → β) → β
  | [], k => k []
  | x :: t, k => normV x fun x => normVL t fun t => k (x :: t)
end
def normH (hp : Hp) (k : Hp → β) : β := match hp with
  | [] => k []
  | none :: t => normH t fun t => k (none :: t)
  | some (cs, ty) :: t => normVL cs fun cs => normN ty fun ty => normH t fun t => k (some (cs, ty) :: t)
def normW (l : List Nat) (k : List Nat → β) : β := match l with
  | [] => k []
  | x :: t => normN x fun x => normW t fun t => k (x :: t)
def normR (r : Ret) (k : Ret → β) : β := normV r.v fun v => normH r.hp fun h => normW r.wr fun w => k ⟨v, h, w⟩
theorem normN_eq (m : Nat) (k : Nat → β) : normN m k = k m := by cases m <;> rfl
theorem normI_eq (n : Int) (k : Int → β) : normI n k = k n := by cases n <;> simp only [normI, normN_eq]
theorem norSt_eq : ∀ (l : List UInt8) (k : List UInt8 → β), norSt l k = k l
  | [], _ => rfl
  | x :: t, k => by unfold norSt; rw [norSt_eq t]
theorem normB_eq (b : Bool) (k : Bool → β) : normB b k = k b := by cases b <;> rfl
mutual
theorem normV_eq : ∀ (v : V) (k : V → β), normV v k = k v
  | .int a n, k => by simp only [normV, normI_eq]
  | .bool b, k => by simp only [normV, normB_eq]
  | .str s, k => by simp only [normV, norSt_eq]
  | .nilp, k => rfl
  | .ptr b o, k => by simp only [normV, normN_eq]
  | .sl b o n f, k => by simp only [normV, normN_eq, normB_eq]
  | .dsl n f cs, k => by simp only [normV, normN_eq, normB_eq, normVL_eq cs]
  | .dptr cs, k => by simp only [normV, normVL_eq cs]
  | .sld cs, k => by simp only [normV, normVL_eq cs]
  | .agg cs, k => by simp only [normV, normVL_eq cs]
  | .tup cs, k => by simp only [normV, normVL_eq cs]
  | .fn f cs, k => by simp only [normV, normVL_eq cs]
  | .nilf, k => rfl
  | .lit u, k => rfl
  | .junk, k => rfl
theorem normVL_eq : ∀ (l : List V) (k : List V → β), normVL l k = k l
  | [], k => rfl
  | x :: t, k => by simp only [normVL, normV_eq x, normVL_eq t]
end
theorem normH_eq : ∀ (hp : Hp) (k : Hp → β), normH hp k = k hp
  | [], _ => rfl
  | none :: t, k => by unfold normH; rw [normH_eq t]
  | some (cs, ty) :: t, k => by unfold normH; rw [normVL_eq, normN_eq, normH_eq t]
theorem normW_eq : ∀ (l : List Nat) (k : List Nat → β), normW l k = k l
  | [], _ => rfl
  | x :: t, k => by unfold normW; rw [normN_eq, normW_eq t]
theorem normR_eq (r : Ret) (k : Ret → β) : normR r k = k r := by unfold normR; rw [normV_eq, normH_eq, normW_eq]
end
/-- The result, reckoned whole. -/
noncomputable def deepN (f : FuncId) (vs : List V) (hp : Hp) : Option Ret := match deepI f vs hp with
  | some r => normR r fun r => some r
  | none => none
theorem deepN_ok {f : FuncId} {vs : List V} {hp : Hp} {r : Ret} (h : deepN f vs hp = some r) : FnOK Tryz.prog f vs hp r := by
  unfold deepN at h
  split at h
  · rename_i r' hr; rw [normR_eq] at h; cases h; exact deepI_ok hr
  · cases h

end Go.Proofs.YtlimecojoiimaaaGreat
