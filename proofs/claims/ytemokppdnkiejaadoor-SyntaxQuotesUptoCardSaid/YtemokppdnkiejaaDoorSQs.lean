/-
  Any text is quoted as the document says, and read, if it is not too long, as what means it alone: the walk and the law joined. Arguments: any text within the statement's bound.
-/
import Derived.Test.YtemokppdnkiejaaDoorPQsB
import Derived.Test.YtemokppdnkiejaaDoorPQsW
import Derived.Test.YtemokppdnkiejaaDoorXQs
namespace Go.Proofs.YtemokppdnkiejaaDoor
open Go.Gx
theorem syntaxQuotes_law (x0 : ByteArray) : M.tidepolelaw10_SyntaxQuotes x0 = some true := by
  obtain ⟨k, hk, k1, k2⟩ : ∃ k : Nat, imn (x0.size : Int) 256 = (k : Int) ∧ k ≤ 256 ∧ k ≤ x0.size := by
    refine ⟨min x0.size 256, ?_, by omega, by omega⟩
    simp only [imn]
    split <;> omega
  rw [M.tidepolelaw10_SyntaxQuotes, hk, if_pos (by omega), if_pos (by omega)]
  have hz := ss_size x0 0 k (Nat.zero_le _) k2
  have hz' : (ss x0 0 (k : Int)).size = k := hz
  generalize ss x0 0 (k : Int) = s at hz'
  rw [quote_ok s (by omega), bnd, rquote_ok s (by omega), bnd, if_pos (by simp)]
  have hb := s2b_range s
  have hlen : (s2b s).length = s.size := by simp only [s2b, List.length_map, Array.length_toList]; rfl
  by_cases hq : ((s2b s).flatMap qb).length ≤ 256
  · obtain ⟨r, h1, h2⟩ := read_ok (s2b s) hb hq
    have h3 := literal_ok (s2b s) hb (by omega) r h2
    have e : (b2s (s2b s)).toList = s.toList := by
      rw [← s2b_inj]
      have r1 : ∀ n : Nat, n < 256 → s2b (b2s [(n : Int)]) = [(n : Int)] := by decide +kernel
      have r2 : ∀ l : List Int, (∀ b ∈ l, 0 ≤ b ∧ b ≤ 255) → s2b (b2s l) = l := by
        intro l
        induction l with
        | nil => intro _; rfl
        | cons b l ih =>
          intro h
          obtain ⟨n, hn⟩ := Int.eq_ofNat_of_zero_le (h b (by simp)).1
          have a1 := r1 n (by have := (h b (by simp)).2; omega)
          have a2 := ih fun x hx => h x (by simp [hx])
          have : b2s (b :: l) = b2s [b] ++ b2s l := by
            apply ByteArray.ext
            simp [b2s, ByteArray.data_append]
          rw [this, s2b_app, a2, hn, a1]
          rfl
      exact r2 _ hb
    rw [h1, bnd, if_neg (by rw [b2s_size]; omega)]; dsimp only
    rw [h3, bnd]; dsimp only
    rw [if_pos rfl, if_pos rfl, if_pos (by rw [e]; simp), Syn.works_eq, bnd]
  · have hs : M.syntax_Parse (b2s ((s2b s).flatMap qb)) = some ((⟨0, [0, 0, 0, 0], ([] : List T27), 0, 0⟩ : T27), 0, 3) := by
      rw [M.syntax_Parse, if_pos (by rw [b2s_size]; omega)]
    rw [hs, bnd, if_pos (by rw [b2s_size]; omega), if_pos rfl, Syn.works_eq, bnd]
    rfl
theorem syntaxQuotes : Rows.SyntaxQuotesUptoCardSaid := syntaxQuotes_card fun x0 _ _ => syntaxQuotes_law x0
end Go.Proofs.YtemokppdnkiejaaDoor
#print axioms Go.Proofs.YtemokppdnkiejaaDoor.syntaxQuotes
