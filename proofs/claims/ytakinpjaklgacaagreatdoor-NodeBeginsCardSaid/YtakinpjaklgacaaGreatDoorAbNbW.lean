/-
  NodeBegins: the rows of a node's letters, as primitives.
-/
import Derived.Test.YtakinpjaklgacaaGreatDoorAbRwA
import Derived.Test.YtakinpjaklgacaaGreatDoorAbRwB
import Derived.Test.YtakinpjaklgacaaGreatDoorAbRwC
import Derived.Test.YtakinpjaklgacaaGreatDoorAbRwD
import Derived.Test.YtakinpjaklgacaaGreatDoorAbNbB
namespace Go.Ab
def rows61_1 : List Row := [rw2, rw3, rw6, rw7, rw10, rw11, rw14, rw15, rw18, rw19, rw22, rw23, rw26, rw27, rw30, rw31]
theorem rows61_1_ok : ∀ r ∈ rows61_1, Row.okF sE0 3000 61 r = true := by
  intro r hr
  simp only [rows61_1, List.mem_cons, List.not_mem_nil, or_false] at hr
  rcases hr with rfl | rfl | rfl | rfl | rfl | rfl | rfl | rfl | rfl | rfl | rfl | rfl | rfl | rfl | rfl | rfl
  · exact rw2_ok
  · exact rw3_ok
  · exact rw6_ok
  · exact rw7_ok
  · exact rw10_ok
  · exact rw11_ok
  · exact rw14_ok
  · exact rw15_ok
  · exact rw18_ok
  · exact rw19_ok
  · exact rw22_ok
  · exact rw23_ok
  · exact rw26_ok
  · exact rw27_ok
  · exact rw30_ok
  · exact rw31_ok
def rows61_2 : List Row := [rw34, rw35, rw38, rw39, rw42, rw43, rw46, rw47, rw50, rw51, rw54, rw55, rw58, rw59, rw62, rw63]
theorem rows61_2_ok : ∀ r ∈ rows61_2, Row.okF sE0 3000 61 r = true := by
  intro r hr
  simp only [rows61_2, List.mem_cons, List.not_mem_nil, or_false] at hr
  rcases hr with rfl | rfl | rfl | rfl | rfl | rfl | rfl | rfl | rfl | rfl | rfl | rfl | rfl | rfl | rfl | rfl
  · exact rw34_ok
  · exact rw35_ok
  · exact rw38_ok
  · exact rw39_ok
  · exact rw42_ok
  · exact rw43_ok
  · exact rw46_ok
  · exact rw47_ok
  · exact rw50_ok
  · exact rw51_ok
  · exact rw54_ok
  · exact rw55_ok
  · exact rw58_ok
  · exact rw59_ok
  · exact rw62_ok
  · exact rw63_ok
def rows61_3 : List Row := [rw68, rw69, rw70, rw71, rw74, rw75, rw78, rw79, rw82, rw83, rw86, rw87, rw90, rw91, rw94, rw95]
theorem rows61_3_ok : ∀ r ∈ rows61_3, Row.okF sE0 3000 61 r = true := by
  intro r hr
  simp only [rows61_3, List.mem_cons, List.not_mem_nil, or_false] at hr
  rcases hr with rfl | rfl | rfl | rfl | rfl | rfl | rfl | rfl | rfl | rfl | rfl | rfl | rfl | rfl | rfl | rfl
  · exact rw68_ok
  · exact rw69_ok
  · exact rw70_ok
  · exact rw71_ok
  · exact rw74_ok
  · exact rw75_ok
  · exact rw78_ok
  · exact rw79_ok
  · exact rw82_ok
  · exact rw83_ok
  · exact rw86_ok
  · exact rw87_ok
  · exact rw90_ok
  · exact rw91_ok
  · exact rw94_ok
  · exact rw95_ok
def rows61_4 : List Row := [rw102, rw103, rw104, rw105, rw106, rw107, rw110, rw111, rw114, rw115, rw118, rw119, rw122, rw123, rw126, rw127]
theorem rows61_4_ok : ∀ r ∈ rows61_4, Row.okF sE0 3000 61 r = true := by
  intro r hr
  simp only [rows61_4, List.mem_cons, List.not_mem_nil, or_false] at hr
  rcases hr with rfl | rfl | rfl | rfl | rfl | rfl | rfl | rfl | rfl | rfl | rfl | rfl | rfl | rfl | rfl | rfl
  · exact rw102_ok
  · exact rw103_ok
  · exact rw104_ok
  · exact rw105_ok
  · exact rw106_ok
  · exact rw107_ok
  · exact rw110_ok
  · exact rw111_ok
  · exact rw114_ok
  · exact rw115_ok
  · exact rw118_ok
  · exact rw119_ok
  · exact rw122_ok
  · exact rw123_ok
  · exact rw126_ok
  · exact rw127_ok
def rows61_5 : List Row := [rw136, rw137, rw138, rw139, rw140, rw141, rw142, rw143, rw146, rw147, rw150, rw151, rw154, rw155, rw158, rw159]
theorem rows61_5_ok : ∀ r ∈ rows61_5, Row.okF sE0 3000 61 r = true := by
  intro r hr
  simp only [rows61_5, List.mem_cons, List.not_mem_nil, or_false] at hr
  rcases hr with rfl | rfl | rfl | rfl | rfl | rfl | rfl | rfl | rfl | rfl | rfl | rfl | rfl | rfl | rfl | rfl
  · exact rw136_ok
  · exact rw137_ok
  · exact rw138_ok
  · exact rw139_ok
  · exact rw140_ok
  · exact rw141_ok
  · exact rw142_ok
  · exact rw143_ok
  · exact rw146_ok
  · exact rw147_ok
  · exact rw150_ok
  · exact rw151_ok
  · exact rw154_ok
  · exact rw155_ok
  · exact rw158_ok
  · exact rw159_ok
def rows61_6 : List Row := [rw170, rw171, rw172, rw173, rw174, rw175, rw176, rw177, rw178, rw179, rw182, rw183, rw186, rw187, rw190, rw191]
theorem rows61_6_ok : ∀ r ∈ rows61_6, Row.okF sE0 3000 61 r = true := by
  intro r hr
  simp only [rows61_6, List.mem_cons, List.not_mem_nil, or_false] at hr
  rcases hr with rfl | rfl | rfl | rfl | rfl | rfl | rfl | rfl | rfl | rfl | rfl | rfl | rfl | rfl | rfl | rfl
  · exact rw170_ok
  · exact rw171_ok
  · exact rw172_ok
  · exact rw173_ok
  · exact rw174_ok
  · exact rw175_ok
  · exact rw176_ok
  · exact rw177_ok
  · exact rw178_ok
  · exact rw179_ok
  · exact rw182_ok
  · exact rw183_ok
  · exact rw186_ok
  · exact rw187_ok
  · exact rw190_ok
  · exact rw191_ok
def rows61_7 : List Row := [rw204, rw205, rw206, rw207, rw208, rw209, rw210, rw211, rw212, rw213, rw214, rw215, rw218, rw219, rw222, rw223]
theorem rows61_7_ok : ∀ r ∈ rows61_7, Row.okF sE0 3000 61 r = true := by
  intro r hr
  simp only [rows61_7, List.mem_cons, List.not_mem_nil, or_false] at hr
  rcases hr with rfl | rfl | rfl | rfl | rfl | rfl | rfl | rfl | rfl | rfl | rfl | rfl | rfl | rfl | rfl | rfl
  · exact rw204_ok
  · exact rw205_ok
  · exact rw206_ok
  · exact rw207_ok
  · exact rw208_ok
  · exact rw209_ok
  · exact rw210_ok
  · exact rw211_ok
  · exact rw212_ok
  · exact rw213_ok
  · exact rw214_ok
  · exact rw215_ok
  · exact rw218_ok
  · exact rw219_ok
  · exact rw222_ok
  · exact rw223_ok
def rows61_8 : List Row := [rw238, rw239, rw240, rw241, rw242, rw243, rw244, rw245, rw246, rw247, rw248, rw249, rw250, rw251, rw254, rw255]
theorem rows61_8_ok : ∀ r ∈ rows61_8, Row.okF sE0 3000 61 r = true := by
  intro r hr
  simp only [rows61_8, List.mem_cons, List.not_mem_nil, or_false] at hr
  rcases hr with rfl | rfl | rfl | rfl | rfl | rfl | rfl | rfl | rfl | rfl | rfl | rfl | rfl | rfl | rfl | rfl
  · exact rw238_ok
  · exact rw239_ok
  · exact rw240_ok
  · exact rw241_ok
  · exact rw242_ok
  · exact rw243_ok
  · exact rw244_ok
  · exact rw245_ok
  · exact rw246_ok
  · exact rw247_ok
  · exact rw248_ok
  · exact rw249_ok
  · exact rw250_ok
  · exact rw251_ok
  · exact rw254_ok
  · exact rw255_ok
def rows61_9 : List Row := [rw272, rw273, rw274, rw275, rw276, rw277, rw278, rw279, rw280, rw281, rw282, rw283, rw284, rw285, rw286, rw287]
theorem rows61_9_ok : ∀ r ∈ rows61_9, Row.okF sE0 3000 61 r = true := by
  intro r hr
  simp only [rows61_9, List.mem_cons, List.not_mem_nil, or_false] at hr
  rcases hr with rfl | rfl | rfl | rfl | rfl | rfl | rfl | rfl | rfl | rfl | rfl | rfl | rfl | rfl | rfl | rfl
  · exact rw272_ok
  · exact rw273_ok
  · exact rw274_ok
  · exact rw275_ok
  · exact rw276_ok
  · exact rw277_ok
  · exact rw278_ok
  · exact rw279_ok
  · exact rw280_ok
  · exact rw281_ok
  · exact rw282_ok
  · exact rw283_ok
  · exact rw284_ok
  · exact rw285_ok
  · exact rw286_ok
  · exact rw287_ok
def rows153_1 : List Row := [rw0, rw1, rw4, rw5, rw8, rw9, rw12, rw13, rw16, rw17, rw20, rw21, rw24, rw25, rw28, rw29]
theorem rows153_1_ok : ∀ r ∈ rows153_1, Row.okF sE0 3000 153 r = true := by
  intro r hr
  simp only [rows153_1, List.mem_cons, List.not_mem_nil, or_false] at hr
  rcases hr with rfl | rfl | rfl | rfl | rfl | rfl | rfl | rfl | rfl | rfl | rfl | rfl | rfl | rfl | rfl | rfl
  · exact rw0_ok
  · exact rw1_ok
  · exact rw4_ok
  · exact rw5_ok
  · exact rw8_ok
  · exact rw9_ok
  · exact rw12_ok
  · exact rw13_ok
  · exact rw16_ok
  · exact rw17_ok
  · exact rw20_ok
  · exact rw21_ok
  · exact rw24_ok
  · exact rw25_ok
  · exact rw28_ok
  · exact rw29_ok
def rows153_2 : List Row := [rw32, rw33, rw36, rw37, rw40, rw41, rw44, rw45, rw48, rw49, rw52, rw53, rw56, rw57, rw60, rw61]
theorem rows153_2_ok : ∀ r ∈ rows153_2, Row.okF sE0 3000 153 r = true := by
  intro r hr
  simp only [rows153_2, List.mem_cons, List.not_mem_nil, or_false] at hr
  rcases hr with rfl | rfl | rfl | rfl | rfl | rfl | rfl | rfl | rfl | rfl | rfl | rfl | rfl | rfl | rfl | rfl
  · exact rw32_ok
  · exact rw33_ok
  · exact rw36_ok
  · exact rw37_ok
  · exact rw40_ok
  · exact rw41_ok
  · exact rw44_ok
  · exact rw45_ok
  · exact rw48_ok
  · exact rw49_ok
  · exact rw52_ok
  · exact rw53_ok
  · exact rw56_ok
  · exact rw57_ok
  · exact rw60_ok
  · exact rw61_ok
def rows153_3 : List Row := [rw64, rw65, rw66, rw67, rw72, rw73, rw76, rw77, rw80, rw81, rw84, rw85, rw88, rw89, rw92, rw93]
theorem rows153_3_ok : ∀ r ∈ rows153_3, Row.okF sE0 3000 153 r = true := by
  intro r hr
  simp only [rows153_3, List.mem_cons, List.not_mem_nil, or_false] at hr
  rcases hr with rfl | rfl | rfl | rfl | rfl | rfl | rfl | rfl | rfl | rfl | rfl | rfl | rfl | rfl | rfl | rfl
  · exact rw64_ok
  · exact rw65_ok
  · exact rw66_ok
  · exact rw67_ok
  · exact rw72_ok
  · exact rw73_ok
  · exact rw76_ok
  · exact rw77_ok
  · exact rw80_ok
  · exact rw81_ok
  · exact rw84_ok
  · exact rw85_ok
  · exact rw88_ok
  · exact rw89_ok
  · exact rw92_ok
  · exact rw93_ok
def rows153_4 : List Row := [rw96, rw97, rw98, rw99, rw100, rw101, rw108, rw109, rw112, rw113, rw116, rw117, rw120, rw121, rw124, rw125]
theorem rows153_4_ok : ∀ r ∈ rows153_4, Row.okF sE0 3000 153 r = true := by
  intro r hr
  simp only [rows153_4, List.mem_cons, List.not_mem_nil, or_false] at hr
  rcases hr with rfl | rfl | rfl | rfl | rfl | rfl | rfl | rfl | rfl | rfl | rfl | rfl | rfl | rfl | rfl | rfl
  · exact rw96_ok
  · exact rw97_ok
  · exact rw98_ok
  · exact rw99_ok
  · exact rw100_ok
  · exact rw101_ok
  · exact rw108_ok
  · exact rw109_ok
  · exact rw112_ok
  · exact rw113_ok
  · exact rw116_ok
  · exact rw117_ok
  · exact rw120_ok
  · exact rw121_ok
  · exact rw124_ok
  · exact rw125_ok
def rows153_5 : List Row := [rw128, rw129, rw130, rw131, rw132, rw133, rw134, rw135, rw144, rw145, rw148, rw149, rw152, rw153, rw156, rw157]
theorem rows153_5_ok : ∀ r ∈ rows153_5, Row.okF sE0 3000 153 r = true := by
  intro r hr
  simp only [rows153_5, List.mem_cons, List.not_mem_nil, or_false] at hr
  rcases hr with rfl | rfl | rfl | rfl | rfl | rfl | rfl | rfl | rfl | rfl | rfl | rfl | rfl | rfl | rfl | rfl
  · exact rw128_ok
  · exact rw129_ok
  · exact rw130_ok
  · exact rw131_ok
  · exact rw132_ok
  · exact rw133_ok
  · exact rw134_ok
  · exact rw135_ok
  · exact rw144_ok
  · exact rw145_ok
  · exact rw148_ok
  · exact rw149_ok
  · exact rw152_ok
  · exact rw153_ok
  · exact rw156_ok
  · exact rw157_ok
def rows153_6 : List Row := [rw160, rw161, rw162, rw163, rw164, rw165, rw166, rw167, rw168, rw169, rw180, rw181, rw184, rw185, rw188, rw189]
theorem rows153_6_ok : ∀ r ∈ rows153_6, Row.okF sE0 3000 153 r = true := by
  intro r hr
  simp only [rows153_6, List.mem_cons, List.not_mem_nil, or_false] at hr
  rcases hr with rfl | rfl | rfl | rfl | rfl | rfl | rfl | rfl | rfl | rfl | rfl | rfl | rfl | rfl | rfl | rfl
  · exact rw160_ok
  · exact rw161_ok
  · exact rw162_ok
  · exact rw163_ok
  · exact rw164_ok
  · exact rw165_ok
  · exact rw166_ok
  · exact rw167_ok
  · exact rw168_ok
  · exact rw169_ok
  · exact rw180_ok
  · exact rw181_ok
  · exact rw184_ok
  · exact rw185_ok
  · exact rw188_ok
  · exact rw189_ok
def rows153_7 : List Row := [rw192, rw193, rw194, rw195, rw196, rw197, rw198, rw199, rw200, rw201, rw202, rw203, rw216, rw217, rw220, rw221]
theorem rows153_7_ok : ∀ r ∈ rows153_7, Row.okF sE0 3000 153 r = true := by
  intro r hr
  simp only [rows153_7, List.mem_cons, List.not_mem_nil, or_false] at hr
  rcases hr with rfl | rfl | rfl | rfl | rfl | rfl | rfl | rfl | rfl | rfl | rfl | rfl | rfl | rfl | rfl | rfl
  · exact rw192_ok
  · exact rw193_ok
  · exact rw194_ok
  · exact rw195_ok
  · exact rw196_ok
  · exact rw197_ok
  · exact rw198_ok
  · exact rw199_ok
  · exact rw200_ok
  · exact rw201_ok
  · exact rw202_ok
  · exact rw203_ok
  · exact rw216_ok
  · exact rw217_ok
  · exact rw220_ok
  · exact rw221_ok
def rows153_8 : List Row := [rw224, rw225, rw226, rw227, rw228, rw229, rw230, rw231, rw232, rw233, rw234, rw235, rw236, rw237, rw252, rw253]
theorem rows153_8_ok : ∀ r ∈ rows153_8, Row.okF sE0 3000 153 r = true := by
  intro r hr
  simp only [rows153_8, List.mem_cons, List.not_mem_nil, or_false] at hr
  rcases hr with rfl | rfl | rfl | rfl | rfl | rfl | rfl | rfl | rfl | rfl | rfl | rfl | rfl | rfl | rfl | rfl
  · exact rw224_ok
  · exact rw225_ok
  · exact rw226_ok
  · exact rw227_ok
  · exact rw228_ok
  · exact rw229_ok
  · exact rw230_ok
  · exact rw231_ok
  · exact rw232_ok
  · exact rw233_ok
  · exact rw234_ok
  · exact rw235_ok
  · exact rw236_ok
  · exact rw237_ok
  · exact rw252_ok
  · exact rw253_ok
def rows153_9 : List Row := [rw256, rw257, rw258, rw259, rw260, rw261, rw262, rw263, rw264, rw265, rw266, rw267, rw268, rw269, rw270, rw271]
theorem rows153_9_ok : ∀ r ∈ rows153_9, Row.okF sE0 3000 153 r = true := by
  intro r hr
  simp only [rows153_9, List.mem_cons, List.not_mem_nil, or_false] at hr
  rcases hr with rfl | rfl | rfl | rfl | rfl | rfl | rfl | rfl | rfl | rfl | rfl | rfl | rfl | rfl | rfl | rfl
  · exact rw256_ok
  · exact rw257_ok
  · exact rw258_ok
  · exact rw259_ok
  · exact rw260_ok
  · exact rw261_ok
  · exact rw262_ok
  · exact rw263_ok
  · exact rw264_ok
  · exact rw265_ok
  · exact rw266_ok
  · exact rw267_ok
  · exact rw268_ok
  · exact rw269_ok
  · exact rw270_ok
  · exact rw271_ok
def rows61 : Nat → List Row
  | 1 => rows61_1
  | 2 => rows61_2
  | 3 => rows61_3
  | 4 => rows61_4
  | 5 => rows61_5
  | 6 => rows61_6
  | 7 => rows61_7
  | 8 => rows61_8
  | 9 => rows61_9
  | _ => []
theorem rows61_ok : ∀ i, ∀ r ∈ rows61 i, Row.okF sE0 3000 61 r = true
  | 1 => rows61_1_ok
  | 2 => rows61_2_ok
  | 3 => rows61_3_ok
  | 4 => rows61_4_ok
  | 5 => rows61_5_ok
  | 6 => rows61_6_ok
  | 7 => rows61_7_ok
  | 8 => rows61_8_ok
  | 9 => rows61_9_ok
  | 0 => fun r hr => by cases hr
  | n + 10 => fun r hr => by simp [rows61] at hr
def rows153 : Nat → List Row
  | 1 => rows153_1
  | 2 => rows153_2
  | 3 => rows153_3
  | 4 => rows153_4
  | 5 => rows153_5
  | 6 => rows153_6
  | 7 => rows153_7
  | 8 => rows153_8
  | 9 => rows153_9
  | _ => []
theorem rows153_ok : ∀ i, ∀ r ∈ rows153 i, Row.okF sE0 3000 153 r = true
  | 1 => rows153_1_ok
  | 2 => rows153_2_ok
  | 3 => rows153_3_ok
  | 4 => rows153_4_ok
  | 5 => rows153_5_ok
  | 6 => rows153_6_ok
  | 7 => rows153_7_ok
  | 8 => rows153_8_ok
  | 9 => rows153_9_ok
  | 0 => fun r hr => by cases hr
  | n + 10 => fun r hr => by simp [rows153] at hr
/-- The calls on letters of node i, and what is said of the list. -/
def primV (i : Nat) (g : FuncId) : Option Prim := if g = 61 then some (primPure (rowsFind (rows61 i))) else if g = 153 then some (primPure (rowsFind (rows153 i))) else primN true g
end Go.Ab
