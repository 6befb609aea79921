/- The plain law of a ring: what its cells come to. Conditions: as each theorem says. -/
namespace Go.Proofs.Ytgdpahojinknmaa

/-- The chunks of a ring of eight cells. -/
def cont (c : List ByteArray) (f n : Nat) : List ByteArray := (List.range n).map fun i => c.getD ((f + i) % 8) ByteArray.empty

theorem cont_length (c : List ByteArray) (f n : Nat) : (cont c f n).length = n := by simp [cont]

theorem cont_push (c : List ByteArray) (f n : Nat) (b : ByteArray) (hc : c.length = 8) (hn : n < 8) : cont (c.set ((f + n) % 8) b) f (n + 1) = cont c f n ++ [b] := by
  unfold cont
  rw [List.range_succ, List.map_append]
  congr 1
  · refine List.map_congr_left fun i hi => ?_
    have hi' := List.mem_range.1 hi
    simp only [List.getD_eq_getElem?_getD]
    rw [List.getElem?_set_ne (by omega)]
  · simp only [List.map_cons, List.map_nil, List.getD_eq_getElem?_getD]
    rw [List.getElem?_set_self (by omega)]
    rfl

theorem cont_pop (c : List ByteArray) (f m : Nat) (e : ByteArray) (hf : f < 8) (hm : m < 8) : cont c f (m + 1) = c.getD f ByteArray.empty :: cont (c.set f e) ((f + 1) % 8) m := by
  unfold cont
  rw [List.range_succ_eq_map, List.map_cons, List.map_map]
  congr 1
  · rw [Nat.add_zero, Nat.mod_eq_of_lt hf]
  · refine List.map_congr_left fun i hi => ?_
    have hi' := List.mem_range.1 hi
    simp only [Function.comp, List.getD_eq_getElem?_getD]
    rw [List.getElem?_set_ne (by omega)]
    congr 2
    omega

/-- What the calls come to. -/
def mPush (l : List ByteArray) (k : Nat) (b : ByteArray) : List ByteArray × Int :=
  if k = 0 ∨ b.size < 1 ∨ 32 < b.size then (l, 1) else if l.length = k then (l, 2) else (l ++ [b], 0)
def mPop (l : List ByteArray) : List ByteArray × ByteArray × Int := match l with
  | [] => ([], ByteArray.empty, 3)
  | b :: r => (r, b, 0)
def mGrow (k : Nat) : Nat × Int := if k = 0 then (k, 1) else if k = 8 then (k, 2) else (k + 1, 0)
def mNew (k : Int) : Nat × Int := if k < 1 ∨ 8 < k then (0, 16) else (k.toNat, 0)
end Go.Proofs.Ytgdpahojinknmaa
