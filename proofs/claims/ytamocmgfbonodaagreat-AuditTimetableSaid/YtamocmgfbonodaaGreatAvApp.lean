/-
  A part of the proof: lemmas of my own.
-/
import GoSem.Dispatch
import Derived.Laws.World
import Derived.Laws.Sem
import Derived.Laws.Append
set_option linter.unusedVariables false
set_option linter.unusedSimpArgs false
namespace Go.AV

theorem ru {P : Program} {w : World} {t : TypeId} {d : TypeDesc} (h : P.underlying t = some d) : (underlying t).run P w = .ok d w := by
  simp [underlying, h]

theorem rt {P : Program} {w : World} {t : TypeId} {i : TypeInfo} (h : P.info? t = some i) : (typeInfo t).run P w = .ok i w := by
  simp [typeInfo, h]

theorem rs {P : Program} {w : World} {t : TypeId} {i : TypeInfo} (h : P.info? t = some i) : (sizeOf t).run P w = .ok i.size w := by
  simp [sizeOf, rt h]

theorem rz {P : Program} {w : World} {t : TypeId} {i : TypeInfo} {z : Value} (h : P.info? t = some i) (hz : i.zero = some z) : (zeroValue t).run P w = .ok z w := by
  simp [zeroValue, rt h, hz]

theorem rn {P : Program} {w : World} (elem : TypeId) (c : Array Value) : (newRow elem c).run P w = .ok ⟨w.heap.size, 0, none⟩ (w.alloc (.cells c elem)) := by
  simp [newRow]

section
variable {P : Program} {w : World}

/-- what append's second argument's type must not be: the mark of 'append(s, make(..)...)' -/
def notInt : TypeDesc → Bool
  | .int _ => false
  | _ => true

structure Room (P : Program) (e : TypeId) (i : TypeInfo) (n : Nat) (z : Value) : Prop where
  info : P.info? e = some i
  zero : i.zero = some z
  size : z.cells.size = i.size
  bytes : n * i.bytes ≤ 1099511627776
  len : n ≤ 1099511627776
  pos : 0 < i.bytes
  small : i.bytes ≤ 1048576

theorem zeroCells_size (z : Array Value) (n : Nat) : (Builtin.zeroCells z n).size = n * z.size := by simp [Builtin.zeroCells]

set_option maxHeartbeats 2000000 in
/-- append, in the room that is there -/
theorem run_append_in {st xt e ty : TypeId} {i : TypeInfo} {xd : TypeDesc} {base : Option Addr} {len cap n : Nat} {x' : Value} {new' : List Value} {w' : World} (hu : P.underlying st = some (.slice e)) (hxu : P.underlying xt = some xd) (hxd : notInt xd = true)
    (hi : P.info? e = some i) (hn : (Builtin.lenOf x').run P w = .ok n w) (hnew : (Builtin.firstCells i.size n x').run P w = .ok ⟨new'⟩ w) (hle : len + n ≤ cap)
    (hst : match base with | none => w' = w | some a => (storeCells (a.add (len * i.size)) new').run P w = .ok () w') :
    (Builtin.append_ #[st, xt] ty #[.slice base len cap, x']).run P w = .ok (.slice base (len + n) cap) w' := by
  cases base with
  | none =>
    subst hst
    cases xd <;> first
      | (simp [notInt] at hxd; done)
      | simp [Builtin.append_, ru hu, ru hxu, rs hi, hn, hle, hnew]
  | some a =>
    cases xd <;> first
      | (simp [notInt] at hxd; done)
      | simp [Builtin.append_, ru hu, ru hxu, rs hi, hn, hle, hnew, hst]

set_option maxHeartbeats 2000000 in
/-- append, into a new row -/
theorem run_append_new {st xt e ty : TypeId} {i : TypeInfo} {xd : TypeDesc} {base : Option Addr} {len cap n : Nat} {x' z : Value} {new' old' : List Value} (hu : P.underlying st = some (.slice e)) (hxu : P.underlying xt = some xd) (hxd : notInt xd = true)
    (hroom : Room P e i (len + n) z) (hn : (Builtin.lenOf x').run P w = .ok n w) (hnew : ∀ w1 : World, w1.heap = w.heap → (Builtin.firstCells i.size n x').run P w1 = .ok ⟨new'⟩ w1) (hlt : cap < len + n)
    (hold : ∀ w1 : World, w1.heap = w.heap → (Builtin.firstCells i.size len (.slice base len cap)).run P w1 = .ok ⟨old'⟩ w1) :
    ∃ ψ, (Builtin.append_ #[st, xt] ty #[.slice base len cap, x']).run P w = .ok (.slice (some ⟨w.heap.size, 0, none⟩) (len + n) (len + n + ψ)) (w.drew.alloc (.cells ((⟨old'⟩ : Array Value) ++ ((⟨new'⟩ : Array Value) ++ Builtin.zeroCells z.cells ψ)) e)) := by
  have hi := hroom.info
  have hbz : i.bytes ≠ 0 := by have := hroom.pos; omega
  have hfit : ¬ Builtin.nextslicecap (len + n) cap * i.bytes > 2 ^ 48 := by
    have := growslice_fits (bytes := i.bytes) hlt (by have := hroom.bytes; omega)
    omega
  refine ⟨w.tape w.drawn (.appendCap (len + n) cap e) % (2 ^ 63 - (len + n)), ?_⟩
  have hnle : ¬ len + n ≤ cap := by omega
  have hold' := hold w.drew rfl
  have hnew' := hnew w.drew rfl
  have hcut' : (Question.appendCap (len + n) cap e).cut (w.tape w.drawn (.appendCap (len + n) cap e)) = len + n + w.tape w.drawn (.appendCap (len + n) cap e) % (2 ^ 63 - (len + n)) := rfl
  generalize w.tape w.drawn (.appendCap (len + n) cap e) % (2 ^ 63 - (len + n)) = ψ at *
  cases xd <;> first
    | (simp [notInt] at hxd; done)
    | (simp [Builtin.append_, ru hu, ru hxu, rs hi, rt hi, hn, hnle, hbz, hfit, Question.forced, hold', hnew', rz hi hroom.zero, rn, hcut']; done)

end
end Go.AV
