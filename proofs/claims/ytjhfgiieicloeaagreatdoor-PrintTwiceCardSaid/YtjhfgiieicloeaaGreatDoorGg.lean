/- Joined texts: KOk1. -/
import Derived.Test.YtjhfgiieicloeaaGreatDoorRows
import Derived.Test.YtjhfgiieicloeaaGreatDoorGx
import Derived.Test.YtjhfgiieicloeaaGreatDoorGf
/- That the Go functions come to the printed Lean functions, whatever they are handed. Printed by sxgen.py of this session. -/
namespace Go.Proofs.YtjhfgiieicloeaaGreatDoor
open Go Go.Am Go.Sx
set_option maxRecDepth 100000
def tt:TT:={ kd:=[(0,.other),(1,.func),(2,(.int .i64)),(3,(.int .i64)),(4,.bool),(5,(.int .u8)),(6,(.int .u8)),(7,.struct),(8,.struct),(9,.string),(10,.string),(11,.string),(12,(.int .u64)),(13,.struct),(14,.struct),(15,(.pointer 188)),(16,(.pointer 191)),(17,(.pointer 198)),(18,.struct),(19,.struct),(20,.other),(21,(.int .i32)),(22,(.slice 51)),(23,.struct),(24,.struct),(25,(.pointer 60)),(26,.other),(27,.func),(28,.func),(29,(.int .i64)),(30,.other),(31,.func),(32,.other),(33,.func),(34,.func),(35,.func),(36,.func),(37,.other),(38,.func),(39,.other),(40,.func),(41,.func),(42,.func),(43,.other),(44,.func),(45,(.slice 73)),(46,.other),(47,.func),(48,.func),(49,(.slice 3)),(50,.struct),(51,.struct),(52,.func),(53,.func),(54,(.pointer 57)),(55,(.slice 5)),(56,.struct),(57,.struct),(58,(.slice 25)),(59,.struct),(60,.struct),(61,.other),(62,.other),(63,.other),(64,.func),(65,.func),(66,.func),(67,.func),(68,.func),(69,.func),(70,.other),(71,.func),(72,.struct),(73,.struct),(74,.func),(75,.func),(76,.func),(77,(.slice 4)),(78,.func),(79,.other),(80,.func),(81,.func),(82,.func),(83,.func),(84,.func),(85,.func),(86,.other),(87,.func),(88,(.pointer 104)),(89,.func),(90,.func),(91,.func),(92,.func),(93,.func),(94,.func),(95,.func),(96,(.pointer 5)),(97,.other),(98,.func),(99,.func),(100,.func),(101,.func),(102,.func),(103,.struct),(104,.struct),(105,.func),(106,.func),(107,(.slice 9)),(108,.func),(109,.func),(110,.other),(111,.func),(112,.func),(113,.func),(114,.other),(115,.func),(116,.func),(117,.func),(118,(.slice 121)),(119,.func),(120,.struct),(121,.struct),(122,.func),(123,.func),(124,.func),(125,.func),(126,.func),(127,.func),(128,.other),(129,.func),(130,.func),(131,.func),(132,.func),(133,.func),(134,.func),(135,.func),(136,.func),(137,.func),(138,(.slice 93)),(139,(.map 9 4)),(140,.func),(141,.func),(142,.func),(143,(.int .u64)),(144,.func),(145,.func),(146,(.pointer 149)),(147,.func),(148,.struct),(149,.struct),(150,.func),(151,.func),(152,.func),(153,.func),(154,.func),(155,.func),(156,.func),(157,.func),(158,.func),(159,.array),(160,.struct),(161,.struct),(162,.array),(163,(.int .u64)),(164,.func),(165,.func),(166,.func),(167,(.slice 21)),(168,.other),(169,.func),(170,.func),(171,.func),(172,(.pointer 174)),(173,.struct),(174,.struct),(175,.other),(176,.func),(177,.func),(178,.func),(179,.func),(180,.func),(181,.func),(182,(.int .u32)),(183,.other),(184,.func),(185,.func),(186,.func),(187,.struct),(188,.struct),(189,.array),(190,.struct),(191,.struct),(192,(.int .u8)),(193,(.int .u8)),(194,.func),(195,(.int .i32)),(196,(.int .i32)),(197,.struct),(198,.struct)],sz:=[(1,1),(2,1),(3,1),(4,1),(5,1),(6,1),(7,4),(8,4),(9,1),(10,1),(11,1),(12,1),(13,2),(14,2),(15,1),(16,1),(17,1),(18,1),(19,1),(21,1),(22,1),(23,1),(24,1),(25,1),(27,1),(28,1),(29,1),(31,1),(33,1),(34,1),(35,1),(36,1),(38,1),(40,1),(41,1),(42,1),(44,1),(45,1),(47,1),(48,1),(49,1),(50,5),(51,5),(52,1),(53,1),(54,1),(55,1),(56,2),(57,2),(58,1),(59,5),(60,5),(64,1),(65,1),(66,1),(67,1),(68,1),(69,1),(71,1),(72,4),(73,4),(74,1),(75,1),(76,1),(77,1),(78,1),(80,1),(81,1),(82,1),(83,1),(84,1),(85,1),(87,1),(88,1),(89,1),(90,1),(91,1),(92,1),(93,1),(94,1),(95,1),(96,1),(98,1),(99,1),(100,1),(101,1),(102,1),(103,3),(104,3),(105,1),(106,1),(107,1),(108,1),(109,1),(111,1),(112,1),(113,1),(114,1),(115,1),(116,1),(117,1),(118,1),(119,1),(120,7),(121,7),(122,1),(123,1),(124,1),(125,1),(126,1),(127,1),(129,1),(130,1),(131,1),(132,1),(133,1),(134,1),(135,1),(136,1),(137,1),(138,1),(139,1),(140,1),(141,1),(142,1),(143,1),(144,1),(145,1),(146,1),(147,1),(148,3),(149,3),(150,1),(151,1),(152,1),(153,1),(154,1),(155,1),(156,1),(157,1),(158,1),(159,256),(160,2),(161,2),(162,32),(163,1),(164,1),(165,1),(166,1),(167,1),(169,1),(170,1),(171,1),(172,1),(173,3),(174,3),(176,1),(177,1),(178,1),(179,1),(180,1),(181,1),(182,1),(184,1),(185,1),(186,1),(187,4),(188,4),(189,0),(190,0),(191,0),(192,1),(193,1),(194,1),(195,1),(196,1),(197,11),(198,11)],by':=[(1,8),(2,8),(3,8),(4,1),(5,1),(6,1),(7,24),(8,24),(9,16),(10,16),(11,16),(12,8),(13,24),(14,24),(15,8),(16,8),(17,8),(18,8),(19,8),(21,4),(22,24),(23,24),(24,24),(25,8),(27,8),(28,8),(29,8),(31,8),(33,8),(34,8),(35,8),(36,8),(38,8),(40,8),(41,8),(42,8),(44,8),(45,24),(47,8),(48,8),(49,24),(50,72),(51,72),(52,8),(53,8),(54,8),(55,24),(56,32),(57,32),(58,24),(59,72),(60,72),(64,8),(65,8),(66,8),(67,8),(68,8),(69,8),(71,8),(72,40),(73,40),(74,8),(75,8),(76,8),(77,24),(78,8),(80,8),(81,8),(82,8),(83,8),(84,8),(85,8),(87,8),(88,8),(89,8),(90,8),(91,8),(92,8),(93,8),(94,8),(95,8),(96,8),(98,8),(99,8),(100,8),(101,8),(102,8),(103,40),(104,40),(105,8),(106,8),(107,24),(108,8),(109,8),(111,8),(112,8),(113,8),(114,8),(115,8),(116,8),(117,8),(118,24),(119,8),(120,80),(121,80),(122,8),(123,8),(124,8),(125,8),(126,8),(127,8),(129,8),(130,8),(131,8),(132,8),(133,8),(134,8),(135,8),(136,8),(137,8),(138,24),(139,8),(140,8),(141,8),(142,8),(143,8),(144,8),(145,8),(146,8),(147,8),(148,40),(149,40),(150,8),(151,8),(152,8),(153,8),(154,8),(155,8),(156,8),(157,8),(158,8),(159,256),(160,2),(161,2),(162,32),(163,8),(164,8),(165,8),(166,8),(167,24),(169,8),(170,8),(171,8),(172,8),(173,40),(174,40),(176,8),(177,8),(178,8),(179,8),(180,8),(181,8),(182,4),(184,8),(185,8),(186,8),(187,40),(188,40),(189,0),(190,0),(191,0),(192,1),(193,1),(194,8),(195,4),(196,4),(197,48),(198,48)],zero:=[(1,[.nilFunc]),(2,[(.int .i64 0)]),(3,[(.int .i64 0)]),(4,[(.bool false)]),(5,[(.int .u8 0)]),(6,[(.int .u8 0)]),(7,[(.int .i64 0),(.int .i64 0),(.bool false),(.int .u8 0)]),(8,[(.int .i64 0),(.int .i64 0),(.bool false),(.int .u8 0)]),(9,[(.string ⟨#[]⟩)]),(10,[(.string ⟨#[]⟩)]),(11,[(.string ⟨#[]⟩)]),(12,[(.int .u64 0)]),(13,[(.string ⟨#[]⟩),(.int .u64 0)]),(14,[(.string ⟨#[]⟩),(.int .u64 0)]),(15,[(.pointer none)]),(16,[(.pointer none)]),(17,[(.pointer none)]),(18,[(.pointer none)]),(19,[(.pointer none)]),(21,[(.int .i32 0)]),(22,[(.slice none 0 0)]),(23,[(.slice none 0 0)]),(24,[(.slice none 0 0)]),(25,[(.pointer none)]),(27,[.nilFunc]),(28,[.nilFunc]),(29,[(.int .i64 0)]),(31,[.nilFunc]),(33,[.nilFunc]),(34,[.nilFunc]),(35,[.nilFunc]),(36,[.nilFunc]),(38,[.nilFunc]),(40,[.nilFunc]),(41,[.nilFunc]),(42,[.nilFunc]),(44,[.nilFunc]),(45,[(.slice none 0 0)]),(47,[.nilFunc]),(48,[.nilFunc]),(49,[(.slice none 0 0)]),(50,[(.int .i64 0),(.int .i64 0),(.string ⟨#[]⟩),(.string ⟨#[]⟩),(.slice none 0 0)]),(51,[(.int .i64 0),(.int .i64 0),(.string ⟨#[]⟩),(.string ⟨#[]⟩),(.slice none 0 0)]),(52,[.nilFunc]),(53,[.nilFunc]),(54,[(.pointer none)]),(55,[(.slice none 0 0)]),(56,[(.pointer none),(.slice none 0 0)]),(57,[(.pointer none),(.slice none 0 0)]),(58,[(.slice none 0 0)]),(59,[(.int .i64 0),(.int .i64 0),(.string ⟨#[]⟩),(.string ⟨#[]⟩),(.slice none 0 0)]),(60,[(.int .i64 0),(.int .i64 0),(.string ⟨#[]⟩),(.string ⟨#[]⟩),(.slice none 0 0)]),(64,[.nilFunc]),(65,[.nilFunc]),(66,[.nilFunc]),(67,[.nilFunc]),(68,[.nilFunc]),(69,[.nilFunc]),(71,[.nilFunc]),(72,[(.int .i64 0),(.string ⟨#[]⟩),(.int .i64 0),(.int .i64 0)]),(73,[(.int .i64 0),(.string ⟨#[]⟩),(.int .i64 0),(.int .i64 0)]),(74,[.nilFunc]),(75,[.nilFunc]),(76,[.nilFunc]),(77,[(.slice none 0 0)]),(78,[.nilFunc]),(80,[.nilFunc]),(81,[.nilFunc]),(82,[.nilFunc]),(83,[.nilFunc]),(84,[.nilFunc]),(85,[.nilFunc]),(87,[.nilFunc]),(88,[(.pointer none)]),(89,[.nilFunc]),(90,[.nilFunc]),(91,[.nilFunc]),(92,[.nilFunc]),(93,[.nilFunc]),(94,[.nilFunc]),(95,[.nilFunc]),(96,[(.pointer none)]),(98,[.nilFunc]),(99,[.nilFunc]),(100,[.nilFunc]),(101,[.nilFunc]),(102,[.nilFunc]),(103,[(.slice none 0 0),(.int .i64 0),(.int .i64 0)]),(104,[(.slice none 0 0),(.int .i64 0),(.int .i64 0)]),(105,[.nilFunc]),(106,[.nilFunc]),(107,[(.slice none 0 0)]),(108,[.nilFunc]),(109,[.nilFunc]),(111,[.nilFunc]),(112,[.nilFunc]),(113,[.nilFunc]),(114,[(.pointer none)]),(115,[.nilFunc]),(116,[.nilFunc]),(117,[.nilFunc]),(118,[(.slice none 0 0)]),(119,[.nilFunc]),(120,[(.int .i64 0),(.int .i64 0),(.string ⟨#[]⟩),(.string ⟨#[]⟩),(.int .i64 0),(.int .i64 0),(.string ⟨#[]⟩)]),(121,[(.int .i64 0),(.int .i64 0),(.string ⟨#[]⟩),(.string ⟨#[]⟩),(.int .i64 0),(.int .i64 0),(.string ⟨#[]⟩)]),(122,[.nilFunc]),(123,[.nilFunc]),(124,[.nilFunc]),(125,[.nilFunc]),(126,[.nilFunc]),(127,[.nilFunc]),(129,[.nilFunc]),(130,[.nilFunc]),(131,[.nilFunc]),(132,[.nilFunc]),(133,[.nilFunc]),(134,[.nilFunc]),(135,[.nilFunc]),(136,[.nilFunc]),(137,[.nilFunc]),(138,[(.slice none 0 0)]),(139,[(.map none)]),(140,[.nilFunc]),(141,[.nilFunc]),(142,[.nilFunc]),(143,[(.int .u64 0)]),(144,[.nilFunc]),(145,[.nilFunc]),(146,[(.pointer none)]),(147,[.nilFunc]),(148,[(.slice none 0 0),(.int .i64 0),(.int .i64 0)]),(149,[(.slice none 0 0),(.int .i64 0),(.int .i64 0)]),(150,[.nilFunc]),(151,[.nilFunc]),(152,[.nilFunc]),(153,[.nilFunc]),(154,[.nilFunc]),(155,[.nilFunc]),(156,[.nilFunc]),(157,[.nilFunc]),(158,[.nilFunc]),(159,[(.int .u8 0),(.int .u8 0),(.int .u8 0),(.int .u8 0),(.int .u8 0),(.int .u8 0),(.int .u8 0),(.int .u8 0),(.int .u8 0),(.int .u8 0),(.int .u8 0),(.int .u8 0),(.int .u8 0),(.int .u8 0),(.int .u8 0),(.int .u8 0),(.int .u8 0),(.int .u8 0),(.int .u8 0),(.int .u8 0),(.int .u8 0),(.int .u8 0),(.int .u8 0),(.int .u8 0),(.int .u8 0),(.int .u8 0),(.int .u8 0),(.int .u8 0),(.int .u8 0),(.int .u8 0),(.int .u8 0),(.int .u8 0),(.int .u8 0),(.int .u8 0),(.int .u8 0),(.int .u8 0),(.int .u8 0),(.int .u8 0),(.int .u8 0),(.int .u8 0),(.int .u8 0),(.int .u8 0),(.int .u8 0),(.int .u8 0),(.int .u8 0),(.int .u8 0),(.int .u8 0),(.int .u8 0),(.int .u8 0),(.int .u8 0),(.int .u8 0),(.int .u8 0),(.int .u8 0),(.int .u8 0),(.int .u8 0),(.int .u8 0),(.int .u8 0),(.int .u8 0),(.int .u8 0),(.int .u8 0),(.int .u8 0),(.int .u8 0),(.int .u8 0),(.int .u8 0),(.int .u8 0),(.int .u8 0),(.int .u8 0),(.int .u8 0),(.int .u8 0),(.int .u8 0),(.int .u8 0),(.int .u8 0),(.int .u8 0),(.int .u8 0),(.int .u8 0),(.int .u8 0),(.int .u8 0),(.int .u8 0),(.int .u8 0),(.int .u8 0),(.int .u8 0),(.int .u8 0),(.int .u8 0),(.int .u8 0),(.int .u8 0),(.int .u8 0),(.int .u8 0),(.int .u8 0),(.int .u8 0),(.int .u8 0),(.int .u8 0),(.int .u8 0),(.int .u8 0),(.int .u8 0),(.int .u8 0),(.int .u8 0),(.int .u8 0),(.int .u8 0),(.int .u8 0),(.int .u8 0),(.int .u8 0),(.int .u8 0),(.int .u8 0),(.int .u8 0),(.int .u8 0),(.int .u8 0),(.int .u8 0),(.int .u8 0),(.int .u8 0),(.int .u8 0),(.int .u8 0),(.int .u8 0),(.int .u8 0),(.int .u8 0),(.int .u8 0),(.int .u8 0),(.int .u8 0),(.int .u8 0),(.int .u8 0),(.int .u8 0),(.int .u8 0),(.int .u8 0),(.int .u8 0),(.int .u8 0),(.int .u8 0),(.int .u8 0),(.int .u8 0),(.int .u8 0),(.int .u8 0),(.int .u8 0),(.int .u8 0),(.int .u8 0),(.int .u8 0),(.int .u8 0),(.int .u8 0),(.int .u8 0),(.int .u8 0),(.int .u8 0),(.int .u8 0),(.int .u8 0),(.int .u8 0),(.int .u8 0),(.int .u8 0),(.int .u8 0),(.int .u8 0),(.int .u8 0),(.int .u8 0),(.int .u8 0),(.int .u8 0),(.int .u8 0),(.int .u8 0),(.int .u8 0),(.int .u8 0),(.int .u8 0),(.int .u8 0),(.int .u8 0),(.int .u8 0),(.int .u8 0),(.int .u8 0),(.int .u8 0),(.int .u8 0),(.int .u8 0),(.int .u8 0),(.int .u8 0),(.int .u8 0),(.int .u8 0),(.int .u8 0),(.int .u8 0),(.int .u8 0),(.int .u8 0),(.int .u8 0),(.int .u8 0),(.int .u8 0),(.int .u8 0),(.int .u8 0),(.int .u8 0),(.int .u8 0),(.int .u8 0),(.int .u8 0),(.int .u8 0),(.int .u8 0),(.int .u8 0),(.int .u8 0),(.int .u8 0),(.int .u8 0),(.int .u8 0),(.int .u8 0),(.int .u8 0),(.int .u8 0),(.int .u8 0),(.int .u8 0),(.int .u8 0),(.int .u8 0),(.int .u8 0),(.int .u8 0),(.int .u8 0),(.int .u8 0),(.int .u8 0),(.int .u8 0),(.int .u8 0),(.int .u8 0),(.int .u8 0),(.int .u8 0),(.int .u8 0),(.int .u8 0),(.int .u8 0),(.int .u8 0),(.int .u8 0),(.int .u8 0),(.int .u8 0),(.int .u8 0),(.int .u8 0),(.int .u8 0),(.int .u8 0),(.int .u8 0),(.int .u8 0),(.int .u8 0),(.int .u8 0),(.int .u8 0),(.int .u8 0),(.int .u8 0),(.int .u8 0),(.int .u8 0),(.int .u8 0),(.int .u8 0),(.int .u8 0),(.int .u8 0),(.int .u8 0),(.int .u8 0),(.int .u8 0),(.int .u8 0),(.int .u8 0),(.int .u8 0),(.int .u8 0),(.int .u8 0),(.int .u8 0),(.int .u8 0),(.int .u8 0),(.int .u8 0),(.int .u8 0),(.int .u8 0),(.int .u8 0),(.int .u8 0),(.int .u8 0),(.int .u8 0),(.int .u8 0),(.int .u8 0),(.int .u8 0),(.int .u8 0),(.int .u8 0),(.int .u8 0),(.int .u8 0),(.int .u8 0),(.int .u8 0),(.int .u8 0),(.int .u8 0)]),(160,[(.int .u8 0),(.int .u8 0)]),(161,[(.int .u8 0),(.int .u8 0)]),(162,[(.int .u8 0),(.int .u8 0),(.int .u8 0),(.int .u8 0),(.int .u8 0),(.int .u8 0),(.int .u8 0),(.int .u8 0),(.int .u8 0),(.int .u8 0),(.int .u8 0),(.int .u8 0),(.int .u8 0),(.int .u8 0),(.int .u8 0),(.int .u8 0),(.int .u8 0),(.int .u8 0),(.int .u8 0),(.int .u8 0),(.int .u8 0),(.int .u8 0),(.int .u8 0),(.int .u8 0),(.int .u8 0),(.int .u8 0),(.int .u8 0),(.int .u8 0),(.int .u8 0),(.int .u8 0),(.int .u8 0),(.int .u8 0)]),(163,[(.int .u64 0)]),(164,[.nilFunc]),(165,[.nilFunc]),(166,[.nilFunc]),(167,[(.slice none 0 0)]),(169,[.nilFunc]),(170,[.nilFunc]),(171,[.nilFunc]),(172,[(.pointer none)]),(173,[(.slice none 0 0),(.int .i64 0),(.int .i64 0)]),(174,[(.slice none 0 0),(.int .i64 0),(.int .i64 0)]),(176,[.nilFunc]),(177,[.nilFunc]),(178,[.nilFunc]),(179,[.nilFunc]),(180,[.nilFunc]),(181,[.nilFunc]),(182,[(.int .u32 0)]),(184,[.nilFunc]),(185,[.nilFunc]),(186,[.nilFunc]),(187,[(.pointer none),(.pointer none),(.pointer none),(.string ⟨#[]⟩)]),(188,[(.pointer none),(.pointer none),(.pointer none),(.string ⟨#[]⟩)]),(189,[]),(190,[]),(191,[]),(192,[(.int .u8 0)]),(193,[(.int .u8 0)]),(194,[.nilFunc]),(195,[(.int .i32 0)]),(196,[(.int .i32 0)]),(197,[(.int .u64 0),(.int .u64 0),(.int .u32 0),(.int .u8 0),(.int .u8 0),(.int .u8 0),(.int .u8 0),.nilFunc,(.pointer none),(.int .i32 0),(.int .i32 0)]),(198,[(.int .u64 0),(.int .u64 0),(.int .u32 0),(.int .u8 0),(.int .u8 0),(.int .u8 0),(.int .u8 0),.nilFunc,(.pointer none),(.int .i32 0),(.int .i32 0)])],fld:=[(7,[(2,0,1),(3,1,1),(4,2,1),(6,3,1)]),(8,[(2,0,1),(3,1,1),(4,2,1),(6,3,1)]),(13,[(9,0,1),(12,1,1)]),(14,[(9,0,1),(12,1,1)]),(18,[(17,0,1)]),(19,[(17,0,1)]),(23,[(22,0,1)]),(24,[(22,0,1)]),(50,[(3,0,1),(3,1,1),(9,2,1),(9,3,1),(49,4,1)]),(51,[(3,0,1),(3,1,1),(9,2,1),(9,3,1),(49,4,1)]),(56,[(54,0,1),(55,1,1)]),(57,[(54,0,1),(55,1,1)]),(59,[(3,0,1),(3,1,1),(9,2,1),(9,3,1),(58,4,1)]),(60,[(3,0,1),(3,1,1),(9,2,1),(9,3,1),(58,4,1)]),(72,[(3,0,1),(9,1,1),(3,2,1),(3,3,1)]),(73,[(3,0,1),(9,1,1),(3,2,1),(3,3,1)]),(103,[(45,0,1),(3,1,1),(29,2,1)]),(104,[(45,0,1),(3,1,1),(29,2,1)]),(120,[(3,0,1),(3,1,1),(9,2,1),(9,3,1),(3,4,1),(3,5,1),(9,6,1)]),(121,[(3,0,1),(3,1,1),(9,2,1),(9,3,1),(3,4,1),(3,5,1),(9,6,1)]),(148,[(45,0,1),(3,1,1),(29,2,1)]),(149,[(45,0,1),(3,1,1),(29,2,1)]),(160,[(5,0,1),(5,1,1)]),(161,[(5,0,1),(5,1,1)]),(173,[(45,0,1),(3,1,1),(29,2,1)]),(174,[(45,0,1),(3,1,1),(29,2,1)]),(187,[(17,0,1),(17,1,1),(17,2,1),(9,3,1)]),(188,[(17,0,1),(17,1,1),(17,2,1),(9,3,1)]),(190,[(189,0,0)]),(191,[(189,0,0)]),(197,[(12,0,1),(12,1,1),(182,2,1),(192,3,1),(5,4,1),(5,5,1),(193,6,1),(194,7,1),(96,8,1),(195,9,1),(196,10,1)]),(198,[(12,0,1),(12,1,1),(182,2,1),(192,3,1),(5,4,1),(5,5,1),(193,6,1),(194,7,1),(96,8,1),(195,9,1),(196,10,1)])],arr:=[(159,(256,5)),(162,(16,161)),(189,(0,16))],mp:=[(139,(9,4))],zv:=[(4,(.bool false))] }
theorem jW:eQ Tryz.prog tt:=⟨by kernel_rfl,by kernel_rfl,by kernel_rfl,by kernel_rfl,by kernel_rfl,by kernel_rfl,by kernel_rfl,by kernel_rfl⟩
theorem mixed:Tryz.prog.follows .mixedOrders=true:=by kernel_rfl
def xt:XT:={ T:=tt,ty:=[(2,(.int .i64)),(3,(.int .i64)),(4,.bool),(5,(.int .u8)),(6,(.int .u8)),(7,(.pair (.int .i64) (.pair (.int .i64) (.pair .bool (.int .u8))))),(8,(.pair (.int .i64) (.pair (.int .i64) (.pair .bool (.int .u8))))),(9,.str),(10,.str),(11,.str),(12,(.int .u64)),(13,(.pair .str (.int .u64))),(14,(.pair .str (.int .u64))),(21,(.int .i32)),(22,(.list false (.pair (.int .i64) (.pair (.int .i64) (.pair .str (.pair .str (.list false (.int .i64)))))))),(23,(.one (.list false (.pair (.int .i64) (.pair (.int .i64) (.pair .str (.pair .str (.list false (.int .i64))))))))),(24,(.one (.list false (.pair (.int .i64) (.pair (.int .i64) (.pair .str (.pair .str (.list false (.int .i64))))))))),(25,.tree),(29,(.int .i64)),(45,jD),(49,(.list false (.int .i64))),(50,(.pair (.int .i64) (.pair (.int .i64) (.pair .str (.pair .str (.list false (.int .i64))))))),(51,(.pair (.int .i64) (.pair (.int .i64) (.pair .str (.pair .str (.list false (.int .i64))))))),(55,(.list false (.int .u8))),(58,(.list false .tree)),(59,(.pair (.int .i64) (.pair (.int .i64) (.pair .str (.pair .str (.list false .tree)))))),(60,(.pair (.int .i64) (.pair (.int .i64) (.pair .str (.pair .str (.list false .tree)))))),(72,(.pair (.int .i64) (.pair .str (.pair (.int .i64) (.int .i64))))),(73,(.pair (.int .i64) (.pair .str (.pair (.int .i64) (.int .i64))))),(77,(.list false .bool)),(103,(.pair jD (.pair (.int .i64) (.int .i64)))),(104,(.pair jD (.pair (.int .i64) (.int .i64)))),(107,(.list false .str)),(118,(.list false (.pair (.int .i64) (.pair (.int .i64) (.pair .str (.pair .str (.pair (.int .i64) (.pair (.int .i64) .str)))))))),(120,(.pair (.int .i64) (.pair (.int .i64) (.pair .str (.pair .str (.pair (.int .i64) (.pair (.int .i64) .str))))))),(121,(.pair (.int .i64) (.pair (.int .i64) (.pair .str (.pair .str (.pair (.int .i64) (.pair (.int .i64) .str))))))),(143,(.int .u64)),(148,(.pair jD (.pair (.int .i64) (.int .i64)))),(149,(.pair jD (.pair (.int .i64) (.int .i64)))),(160,(.pair (.int .u8) (.int .u8))),(161,(.pair (.int .u8) (.int .u8))),(163,(.int .u64)),(167,(.list false (.int .i32))),(173,(.pair jD (.pair (.int .i64) (.int .i64)))),(174,(.pair jD (.pair (.int .i64) (.int .i64)))),(182,(.int .u32)),(192,(.int .u8)),(193,(.int .u8)),(195,(.int .i32)),(196,(.int .i32))],objs:=[104,149,174],tab:=[(0,⟨.list false (.int .u8),aYC⟩),(1,⟨.list false (.pair (.int .u8) (.int .u8)),aYz⟩)] }
theorem aK:XOk Tryz.prog xt:=⟨jW,by kernel_rfl⟩
def xI:aW:={ fid:=79,Γ:=[(.int .i32)],args:=[(.var 0)],Δ:=[.bool],res:=(.var 0),f:=fun k x=>utf8_ValidRune k x }
def aHv:aG (Bool):={}
def aHr:List aW:=[]
theorem aNT (k:Nat) (x:Int):utf8_ValidRune k x=fx xt aHr xI Tryz.f79 aHv (aA Tryz.f79) k x:=by kernel_rfl
theorem aNL (K:Nat):aE Tryz.prog xI K:=aJ (X:=xt) (g:=xI) (H:=aHv) (env:=aHr) (c:=aA Tryz.f79) aK mixed (fun k=>aB.nil) Tryz.func79 (by kernel_rfl) (by kernel_rfl) (by kernel_rfl) (aD.all aD.zero (by kernel_rfl) (by kernel_rfl)) aNT K
def mU:aW:={ fid:=50,Γ:=[(.int .i32)],args:=[(.var 0)],Δ:=[(.int .i64)],res:=(.var 0),f:=fun k x=>oS k x }
def aMj:aG (Int):={}
def aMs:List aW:=[xI]
theorem aTa (k:Nat) (x:Int):oS k x=fx xt aMs mU Tryz.f50 aMj (aA Tryz.f50) k x:=by kernel_rfl
theorem sC (K:Nat):aE Tryz.prog mU K:=aJ (X:=xt) (g:=mU) (H:=aMj) (env:=aMs) (c:=aA Tryz.f50) aK mixed (fun k=>(aB.cons (aNL k) aB.nil)) Tryz.func50 (by kernel_rfl) (by kernel_rfl) (by kernel_rfl) (aD.all aD.zero (by kernel_rfl) (by kernel_rfl)) aTa K
def zS:aW:={ fid:=47,Γ:=[.str],args:=[(.var 0)],Δ:=[(.int .i64),(.int .i64)],res:=(.tup [(.var 0),(.var 1)]),f:=fun k x=>rA k x }
def aDM:LH (Int×Int):={ Γ:=[.str,(.int .i64)],live:=[(10,(.it 0))],sto:=[(0,(.iter 0 1))],nk:=1,F:=fun k x=>cY k x.1 x.2 }
def aGZ:aG (Int×Int):={ loops:=[(4,aDM)] }
def aG1:List aW:=[mU]
theorem aSn (k:Nat) (x:(List UInt8)):rA k x=fx xt aG1 zS Tryz.f47 aGZ (aA Tryz.f47) k x:=by kernel_rfl
theorem aNW (k:Nat) (x:(List UInt8)×Int):cY (k+1) x.1 x.2=iW xt aG1 31 0 aGZ (aA Tryz.f47) (iI xt.T Tryz.f47.results zS) 0 aDM k x:=(cY.eq_def ..).trans (by kernel_rfl)
theorem aSe (K:Nat):aE Tryz.prog zS K:=aJ (X:=xt) (g:=zS) (H:=aGZ) (env:=aG1) (c:=aA Tryz.f47) aK mixed (fun k=>(aB.cons (sC k) aB.nil)) Tryz.func47 (by kernel_rfl) (by kernel_rfl) (by kernel_rfl) (aD.all (aD.zero.succ aDM (by kernel_rfl) (fun _=>rfl) aNW) (by kernel_rfl) (by kernel_rfl)) aSn K
def aCW:aW:={ fid:=49,Γ:=[(.int .i32)],args:=[(.var 0)],Δ:=[.bool],res:=(.var 0),f:=fun k x=>aA5 k x }
def aL9:aG (Bool):={}
def aMf:List aW:=[mU]
theorem aSg (k:Nat) (x:Int):aA5 k x=fx xt aMf aCW Tryz.f49 aL9 (aA Tryz.f49) k x:=by kernel_rfl
theorem aSO (K:Nat):aE Tryz.prog aCW K:=aJ (X:=xt) (g:=aCW) (H:=aL9) (env:=aMf) (c:=aA Tryz.f49) aK mixed (fun k=>(aB.cons (sC k) aB.nil)) Tryz.func49 (by kernel_rfl) (by kernel_rfl) (by kernel_rfl) (aD.all aD.zero (by kernel_rfl) (by kernel_rfl)) aSg K
def aB0:aW:={ fid:=48,Γ:=[.str],args:=[(.var 0),(.fn 49 [] [])],Δ:=[(.int .i64)],res:=(.var 0),f:=fun k x=>sY k x }
def aFq:LH (Int):={ Γ:=[.str,.str,(.int .i64)],live:=[(0,(.var 0)),(1,(.fn 49 [] [])),(8,(.it 0))],sto:=[(0,(.iter 1 2))],nk:=1,F:=fun k x=>kR k x.1 x.2.1 x.2.2 }
def aH3:aG (Int):={ loops:=[(2,aFq)] }
def aH2:List aW:=[aCW]
theorem aUl (k:Nat) (x:(List UInt8)):sY k x=fx xt aH2 aB0 Tryz.f48 aH3 (aA Tryz.f48) k x:=by kernel_rfl
theorem aO9 (k:Nat) (x:(List UInt8)×(List UInt8)×Int):kR (k+1) x.1 x.2.1 x.2.2=iW xt aH2 20 0 aH3 (aA Tryz.f48) (iI xt.T Tryz.f48.results aB0) 0 aFq k x:=(kR.eq_def ..).trans (by kernel_rfl)
theorem aUb (K:Nat):aE Tryz.prog aB0 K:=aJ (X:=xt) (g:=aB0) (H:=aH3) (env:=aH2) (c:=aA Tryz.f48) aK mixed (fun k=>(aB.cons (aSO k) aB.nil)) Tryz.func48 (by kernel_rfl) (by kernel_rfl) (by kernel_rfl) (aD.all (aD.zero.succ aFq (by kernel_rfl) (fun _=>rfl) aO9) (by kernel_rfl) (by kernel_rfl)) aUl K
def nP:aW:={ fid:=80,Γ:=[.str,.str],args:=[(.var 0),(.var 1)],Δ:=[.bool],res:=(.var 0),f:=fun k x=>stringslite_HasPrefix k x.1 x.2 }
def aA7:aG (Bool):={}
def aAL:List aW:=[]
theorem aGA (k:Nat) (x:(List UInt8)×(List UInt8)):stringslite_HasPrefix k x.1 x.2=fx xt aAL nP Tryz.f80 aA7 (aA Tryz.f80) k x:=by kernel_rfl
theorem aGM (K:Nat):aE Tryz.prog nP K:=aJ (X:=xt) (g:=nP) (H:=aA7) (env:=aAL) (c:=aA Tryz.f80) aK mixed (fun k=>aB.nil) Tryz.func80 (by kernel_rfl) (by kernel_rfl) (by kernel_rfl) (aD.all aD.zero (by kernel_rfl) (by kernel_rfl)) aGA K
def lG:aW:={ fid:=51,Γ:=[.str,.str],args:=[(.var 0),(.var 1)],Δ:=[.bool],res:=(.var 0),f:=fun k x=>strings_HasPrefix k x.1 x.2 }
def aDW:aG (Bool):={}
def aD1:List aW:=[nP]
theorem aKo (k:Nat) (x:(List UInt8)×(List UInt8)):strings_HasPrefix k x.1 x.2=fx xt aD1 lG Tryz.f51 aDW (aA Tryz.f51) k x:=by kernel_rfl
theorem xE (K:Nat):aE Tryz.prog lG K:=aJ (X:=xt) (g:=lG) (H:=aDW) (env:=aD1) (c:=aA Tryz.f51) aK mixed (fun k=>(aB.cons (aGM k) aB.nil)) Tryz.func51 (by kernel_rfl) (by kernel_rfl) (by kernel_rfl) (aD.all aD.zero (by kernel_rfl) (by kernel_rfl)) aKo K
def uM:aW:={ fid:=52,Γ:=[.str],args:=[(.var 0)],Δ:=[(.int .i64)],res:=(.var 0),f:=fun k x=>zG k x }
def aBY:LH (Int):={ Γ:=[.str,(.int .i64),(.int .i64)],live:=[(0,(.var 0)),(3,(.var 1)),(4,(.var 2))],F:=fun k x=>iZ k x.1 x.2.1 x.2.2 }
def aDS:aG (Int):={ loops:=[(3,aBY)] }
def aDG:List aW:=[lG]
theorem aPT (k:Nat) (x:(List UInt8)):zG k x=fx xt aDG uM Tryz.f52 aDS (aA Tryz.f52) k x:=by kernel_rfl
theorem aLI (k:Nat) (x:(List UInt8)×Int×Int):iZ (k+1) x.1 x.2.1 x.2.2=iW xt aDG 32 0 aDS (aA Tryz.f52) (iI xt.T Tryz.f52.results uM) 0 aBY k x:=(iZ.eq_def ..).trans (by kernel_rfl)
theorem aPF (K:Nat):aE Tryz.prog uM K:=aJ (X:=xt) (g:=uM) (H:=aDS) (env:=aDG) (c:=aA Tryz.f52) aK mixed (fun k=>(aB.cons (xE k) aB.nil)) Tryz.func52 (by kernel_rfl) (by kernel_rfl) (by kernel_rfl) (aD.all (aD.zero.succ aBY (by kernel_rfl) (fun _=>rfl) aLI) (by kernel_rfl) (by kernel_rfl)) aPT K
def zQ:aW:={ fid:=81,Γ:=[.str],args:=[(.var 0)],Δ:=[(.int .i32)],res:=(.var 0),f:=fun k x=>aDk k x }
def aDy:LH (Int):={ Γ:=[.str,(.int .i64)],live:=[(6,(.it 0))],sto:=[(0,(.iter 0 1))],nk:=1,F:=fun k x=>wI k x.1 x.2 }
def aHd:aG (Int):={ loops:=[(2,aDy)] }
def aG8:List aW:=[]
theorem aTe (k:Nat) (x:(List UInt8)):aDk k x=fx xt aG8 zQ Tryz.f81 aHd (aA Tryz.f81) k x:=by kernel_rfl
theorem aOH (k:Nat) (x:(List UInt8)×Int):wI (k+1) x.1 x.2=iW xt aG8 11 0 aHd (aA Tryz.f81) (iI xt.T Tryz.f81.results zQ) 0 aDy k x:=(wI.eq_def ..).trans (by kernel_rfl)
theorem aTh (K:Nat):aE Tryz.prog zQ K:=aJ (X:=xt) (g:=zQ) (H:=aHd) (env:=aG8) (c:=aA Tryz.f81) aK mixed (fun k=>aB.nil) Tryz.func81 (by kernel_rfl) (by kernel_rfl) (by kernel_rfl) (aD.all (aD.zero.succ aDy (by kernel_rfl) (fun _=>rfl) aOH) (by kernel_rfl) (by kernel_rfl)) aTe K
def aC2:aW:={ fid:=116,Γ:=[(.int .i32)],args:=[(.var 0)],Δ:=[.bool],res:=(.var 0),f:=fun k x=>aAT k x }
def aMk:aG (Bool):={}
def aL8:List aW:=[mU]
theorem aS2 (k:Nat) (x:Int):aAT k x=fx xt aL8 aC2 Tryz.f116 aMk (aA Tryz.f116) k x:=by kernel_rfl
theorem aR3 (K:Nat):aE Tryz.prog aC2 K:=aJ (X:=xt) (g:=aC2) (H:=aMk) (env:=aL8) (c:=aA Tryz.f116) aK mixed (fun k=>(aB.cons (sC k) aB.nil)) Tryz.func116 (by kernel_rfl) (by kernel_rfl) (by kernel_rfl) (aD.all aD.zero (by kernel_rfl) (by kernel_rfl)) aS2 K
def sM:aW:={ fid:=48,Γ:=[.str],args:=[(.var 0),(.fn 116 [] [])],Δ:=[(.int .i64)],res:=(.var 0),f:=fun k x=>oM k x }
def aCO:LH (Int):={ Γ:=[.str,.str,(.int .i64)],live:=[(0,(.var 0)),(1,(.fn 116 [] [])),(8,(.it 0))],sto:=[(0,(.iter 1 2))],nk:=1,F:=fun k x=>fZ k x.1 x.2.1 x.2.2 }
def aFZ:aG (Int):={ loops:=[(2,aCO)] }
def aFD:List aW:=[aC2]
theorem aQV (k:Nat) (x:(List UInt8)):oM k x=fx xt aFD sM Tryz.f48 aFZ (aA Tryz.f48) k x:=by kernel_rfl
theorem aNj (k:Nat) (x:(List UInt8)×(List UInt8)×Int):fZ (k+1) x.1 x.2.1 x.2.2=iW xt aFD 20 0 aFZ (aA Tryz.f48) (iI xt.T Tryz.f48.results sM) 0 aCO k x:=(fZ.eq_def ..).trans (by kernel_rfl)
theorem aJa (K:Nat):aE Tryz.prog sM K:=aJ (X:=xt) (g:=sM) (H:=aFZ) (env:=aFD) (c:=aA Tryz.f48) aK mixed (fun k=>(aB.cons (aR3 k) aB.nil)) Tryz.func48 (by kernel_rfl) (by kernel_rfl) (by kernel_rfl) (aD.all (aD.zero.succ aCO (by kernel_rfl) (fun _=>rfl) aNj) (by kernel_rfl) (by kernel_rfl)) aQV K
def aC4:aW:={ fid:=148,Γ:=[],args:=[],Δ:=[(.list false .str)],res:=(.var 0),f:=fun k _=>aDv k }
def aLQ:aG ((List (List UInt8))):={}
def aMa:List aW:=[]
theorem aRV (k:Nat) (x:Unit):aDv k=fx xt aMa aC4 Tryz.f148 aLQ (aA Tryz.f148) k x:=by kernel_rfl
theorem aR9 (K:Nat):aE Tryz.prog aC4 K:=aJ (X:=xt) (g:=aC4) (H:=aLQ) (env:=aMa) (c:=aA Tryz.f148) aK mixed (fun k=>aB.nil) Tryz.func148 (by kernel_rfl) (by kernel_rfl) (by kernel_rfl) (aD.all aD.zero (by kernel_rfl) (by kernel_rfl)) aRV K
def wQ:aW:={ fid:=172,Γ:=[(.list false .str),.str],args:=[(.var 0),(.var 1)],Δ:=[(.int .i64)],res:=(.var 0),f:=fun k x=>slices_Index k x.1 x.2 }
def aCJ:LH (Int):={ Γ:=[(.list false .str),.str,(.int .i64)],live:=[(0,(.var 0)),(1,(.var 1)),(7,(.len 0)),(8,(.var 2))],F:=fun k x=>gC k x.1 x.2.1 x.2.2 }
def aFe:aG (Int):={ loops:=[(2,aCJ)] }
def aFX:List aW:=[]
theorem aQ4 (k:Nat) (x:(List (List UInt8))×(List UInt8)):slices_Index k x.1 x.2=fx xt aFX wQ Tryz.f172 aFe (aA Tryz.f172) k x:=by kernel_rfl
theorem aMJ (k:Nat) (x:(List (List UInt8))×(List UInt8)×Int):gC (k+1) x.1 x.2.1 x.2.2=iW xt aFX 19 0 aFe (aA Tryz.f172) (iI xt.T Tryz.f172.results wQ) 0 aCJ k x:=(gC.eq_def ..).trans (by kernel_rfl)
theorem aQL (K:Nat):aE Tryz.prog wQ K:=aJ (X:=xt) (g:=wQ) (H:=aFe) (env:=aFX) (c:=aA Tryz.f172) aK mixed (fun k=>aB.nil) Tryz.func172 (by kernel_rfl) (by kernel_rfl) (by kernel_rfl) (aD.all (aD.zero.succ aCJ (by kernel_rfl) (fun _=>rfl) aMJ) (by kernel_rfl) (by kernel_rfl)) aQ4 K
def vG:aW:={ fid:=147,Γ:=[(.list false .str),.str],args:=[(.var 0),(.var 1)],Δ:=[.bool],res:=(.var 0),f:=fun k x=>slices_Contains k x.1 x.2 }
def aGj:aG (Bool):={}
def aGn:List aW:=[wQ]
theorem aNg (k:Nat) (x:(List (List UInt8))×(List UInt8)):slices_Contains k x.1 x.2=fx xt aGn vG Tryz.f147 aGj (aA Tryz.f147) k x:=by kernel_rfl
theorem aNe (K:Nat):aE Tryz.prog vG K:=aJ (X:=xt) (g:=vG) (H:=aGj) (env:=aGn) (c:=aA Tryz.f147) aK mixed (fun k=>(aB.cons (aQL k) aB.nil)) Tryz.func147 (by kernel_rfl) (by kernel_rfl) (by kernel_rfl) (aD.all aD.zero (by kernel_rfl) (by kernel_rfl)) aNg K
def aBS:aW:={ fid:=117,Γ:=[.str],args:=[(.var 0)],Δ:=[.bool],res:=(.var 0),f:=fun k x=>rF k x }
def aNC:aG (Bool):={}
def aN9:List aW:=[aC4,vG]
theorem aUj (k:Nat) (x:(List UInt8)):rF k x=fx xt aN9 aBS Tryz.f117 aNC (aA Tryz.f117) k x:=by kernel_rfl
theorem aLP (K:Nat):aE Tryz.prog aBS K:=aJ (X:=xt) (g:=aBS) (H:=aNC) (env:=aN9) (c:=aA Tryz.f117) aK mixed (fun k=>(aB.cons (aR9 k) (aB.cons (aNe k) aB.nil))) Tryz.func117 (by kernel_rfl) (by kernel_rfl) (by kernel_rfl) (aD.all aD.zero (by kernel_rfl) (by kernel_rfl)) aUj K
def aGq:aW:={ fid:=173,Γ:=[.str],args:=[(.var 0)],Δ:=[(.int .u64)],res:=(.var 0),f:=fun k x=>utf8_word k x }
def aQn:aG (Int):={ ord:=[(2,[.l 0,.l 1,.l 2,.l 3,.l 4,.l 5,.l 6,.l 7,.l 8,.l 9,.l 10,.l 11,.l 12,.l 13,.l 14,.l 15,.l 16,.l 17,.l 18,.l 19,.l 20,.l 21,.l 22,.l 23,.l 24,.l 25,.l 26,.l 27,.l 28,.l 29,.l 30,.l 31,.l 32,.l 33,.l 34,.l 35,.l 36,.l 37,.l 38])] }
def aP6:List aW:=[]
theorem aVD (k:Nat) (x:(List UInt8)):utf8_word k x=fx xt aP6 aGq Tryz.f173 aQn (aA Tryz.f173) k x:=by kernel_rfl
theorem aWn (K:Nat):aE Tryz.prog aGq K:=aJ (X:=xt) (g:=aGq) (H:=aQn) (env:=aP6) (c:=aA Tryz.f173) aK mixed (fun k=>aB.nil) Tryz.func173 (by kernel_rfl) (by kernel_rfl) (by kernel_rfl) (aD.all aD.zero (by kernel_rfl) (by kernel_rfl)) aVD K
def mK:aW:={ fid:=149,Γ:=[.str],args:=[(.var 0)],Δ:=[.bool],res:=(.var 0),f:=fun k x=>utf8_ValidString k x }
def wS:LH (Bool):={ Γ:=[.str],live:=[(0,(.var 0))],F:=fun k x=>aV k x }
def vY:LH (Bool):={ Γ:=[.str],live:=[(0,(.var 0))],F:=fun k x=>dH k x }
def uJ:aG (Bool):={ ord:=[(7,[.l 0,.l 1,.l 2,.l 3,.l 4,.l 6,.l 7,.h 5,.h 8,.l 9,.l 10,.l 11,.l 12]),(9,[.l 0,.l 1,.l 2,.l 3,.l 4,.l 6,.l 7,.l 10,.l 11,.l 13,.l 14,.h 5,.h 8,.l 9,.h 12,.h 15,.l 16,.l 17,.l 18,.l 19,.l 20]),(17,[.l 0,.l 1,.l 2,.l 3,.l 4,.l 5,.l 6,.l 7,.l 8,.l 9,.l 10,.l 11,.l 12,.l 13,.l 14,.l 15,.l 16]),(21,[.l 0,.l 1,.l 2,.l 3,.l 4,.l 5,.l 6,.l 7,.l 8,.l 9,.l 10,.l 11,.l 12,.l 13,.l 14,.l 15,.l 16,.l 17,.l 18,.l 19,.l 20,.l 21,.l 22,.l 23,.l 24,.l 25,.l 26]),(25,[.l 0,.l 1,.l 2,.l 3,.l 4,.l 5,.l 6,.l 7,.l 8,.l 9,.l 10,.l 11,.l 12,.l 13,.l 14,.l 15,.l 16,.l 17,.l 18,.l 19,.l 20,.l 21,.l 22,.l 23,.l 24,.l 25,.l 26,.l 27,.l 28,.l 29,.l 30,.l 31,.l 32,.l 33,.l 34,.l 35,.l 36])],loops:=[(1,wS),(9,vY)] }
def tY:List aW:=[aGq]
theorem aLy (k:Nat) (x:(List UInt8)):utf8_ValidString k x=fx xt tY mK Tryz.f149 uJ (aA Tryz.f149) k x:=by kernel_rfl
theorem aH5 (k:Nat) (x:(List UInt8)):aV (k+1) x=iW xt tY 169 0 uJ (aA Tryz.f149) (iI xt.T Tryz.f149.results mK) 0 wS k x:=(aV.eq_def ..).trans (by kernel_rfl)
theorem aHN (k:Nat) (x:(List UInt8)):dH (k+1) x=iW xt tY 169 0 uJ (aA Tryz.f149) (iI xt.T Tryz.f149.results mK) 1 vY k x:=(dH.eq_def ..).trans (by kernel_rfl)
theorem aLH (K:Nat):aE Tryz.prog mK K:=aJ (X:=xt) (g:=mK) (H:=uJ) (env:=tY) (c:=aA Tryz.f149) aK mixed (fun k=>(aB.cons (aWn k) aB.nil)) Tryz.func149 (by kernel_rfl) (by kernel_rfl) (by kernel_rfl) (aD.all ((aD.zero.succ wS (by kernel_rfl) (fun _=>rfl) aH5).succ vY (by kernel_rfl) (fun _=>rfl) aHN) (by kernel_rfl) (by kernel_rfl)) aLy K
def xR:aW:={ fid:=118,Γ:=[.str],args:=[(.var 0)],Δ:=[.bool],res:=(.var 0),f:=fun k x=>uL k x }
def aFc:LH (Bool):={ Γ:=[.str,(.int .i64)],live:=[(18,(.it 0))],sto:=[(0,(.iter 0 1))],nk:=1,F:=fun k x=>kQ k x.1 x.2 }
def aIA:aG (Bool):={ loops:=[(4,aFc)] }
def aIk:List aW:=[mK,mU]
theorem aTZ (k:Nat) (x:(List UInt8)):uL k x=fx xt aIk xR Tryz.f118 aIA (aA Tryz.f118) k x:=by kernel_rfl
theorem aPk (k:Nat) (x:(List UInt8)×Int):kQ (k+1) x.1 x.2=iW xt aIk 37 0 aIA (aA Tryz.f118) (iI xt.T Tryz.f118.results xR) 0 aFc k x:=(kQ.eq_def ..).trans (by kernel_rfl)
theorem aLZ (K:Nat):aE Tryz.prog xR K:=aJ (X:=xt) (g:=xR) (H:=aIA) (env:=aIk) (c:=aA Tryz.f118) aK mixed (fun k=>(aB.cons (aLH k) (aB.cons (sC k) aB.nil))) Tryz.func118 (by kernel_rfl) (by kernel_rfl) (by kernel_rfl) (aD.all (aD.zero.succ aFc (by kernel_rfl) (fun _=>rfl) aPk) (by kernel_rfl) (by kernel_rfl)) aTZ K
def aB7:aW:={ fid:=82,Γ:=[.str],args:=[(.var 0)],Δ:=[(.int .i64),.str,(.int .i64),(.int .i64),(.int .i64),.bool],res:=(.tup [(.agg [(.var 0),(.var 1),(.var 2),(.var 3)]),(.var 4),(.var 5)]),f:=fun k x=>aAr k x }
def aEL:LH (Int×(List UInt8)×Int×Int×Int×Bool):={ Γ:=[.str,(.int .i64),.bool],live:=[(0,(.var 0)),(2,(.ref 0 0)),(5,(.var 1)),(6,(.var 2))],sto:=[(0,(.cells 73 4 [(.int .i64 0),(.str []),(.int .i64 0),(.int .i64 0)] false))],nk:=1,F:=fun k x=>eD k x.1 x.2.1 x.2.2 }
def aIg:aG (Int×(List UInt8)×Int×Int×Int×Bool):={ loops:=[(5,aEL)] }
def aH8:List aW:=[sM,aBS,xR]
theorem aTM (k:Nat) (x:(List UInt8)):aAr k x=fx xt aH8 aB7 Tryz.f82 aIg (aA Tryz.f82) k x:=by kernel_rfl
theorem aPi (k:Nat) (x:(List UInt8)×Int×Bool):eD (k+1) x.1 x.2.1 x.2.2=iW xt aH8 88 0 aIg (aA Tryz.f82) (iI xt.T Tryz.f82.results aB7) 0 aEL k x:=(eD.eq_def ..).trans (by kernel_rfl)
theorem aTO (K:Nat):aE Tryz.prog aB7 K:=aJ (X:=xt) (g:=aB7) (H:=aIg) (env:=aH8) (c:=aA Tryz.f82) aK mixed (fun k=>(aB.cons (aJa k) (aB.cons (aLP k) (aB.cons (aLZ k) aB.nil)))) Tryz.func82 (by kernel_rfl) (by kernel_rfl) (by kernel_rfl) (aD.all (aD.zero.succ aEL (by kernel_rfl) (fun _=>rfl) aPi) (by kernel_rfl) (by kernel_rfl)) aTM K
def yB:aW:={ fid:=119,Γ:=[(.int .i32)],args:=[(.var 0)],Δ:=[.bool],res:=(.var 0),f:=fun k x=>rZ k x }
def aHq:aG (Bool):={}
def aHm:List aW:=[mU]
theorem aOo (k:Nat) (x:Int):rZ k x=fx xt aHm yB Tryz.f119 aHq (aA Tryz.f119) k x:=by kernel_rfl
theorem aOs (K:Nat):aE Tryz.prog yB K:=aJ (X:=xt) (g:=yB) (H:=aHq) (env:=aHm) (c:=aA Tryz.f119) aK mixed (fun k=>(aB.cons (sC k) aB.nil)) Tryz.func119 (by kernel_rfl) (by kernel_rfl) (by kernel_rfl) (aD.all aD.zero (by kernel_rfl) (by kernel_rfl)) aOo K
def wF:aW:={ fid:=48,Γ:=[.str],args:=[(.var 0),(.fn 119 [] [])],Δ:=[(.int .i64)],res:=(.var 0),f:=fun k x=>uK k x }
def aCx:LH (Int):={ Γ:=[.str,.str,(.int .i64)],live:=[(0,(.var 0)),(1,(.fn 119 [] [])),(8,(.it 0))],sto:=[(0,(.iter 1 2))],nk:=1,F:=fun k x=>iU k x.1 x.2.1 x.2.2 }
def aFn:aG (Int):={ loops:=[(2,aCx)] }
def aEZ:List aW:=[yB]
theorem aQ6 (k:Nat) (x:(List UInt8)):uK k x=fx xt aEZ wF Tryz.f48 aFn (aA Tryz.f48) k x:=by kernel_rfl
theorem aMZ (k:Nat) (x:(List UInt8)×(List UInt8)×Int):iU (k+1) x.1 x.2.1 x.2.2=iW xt aEZ 20 0 aFn (aA Tryz.f48) (iI xt.T Tryz.f48.results wF) 0 aCx k x:=(iU.eq_def ..).trans (by kernel_rfl)
theorem aQW (K:Nat):aE Tryz.prog wF K:=aJ (X:=xt) (g:=wF) (H:=aFn) (env:=aEZ) (c:=aA Tryz.f48) aK mixed (fun k=>(aB.cons (aOs k) aB.nil)) Tryz.func48 (by kernel_rfl) (by kernel_rfl) (by kernel_rfl) (aD.all (aD.zero.succ aCx (by kernel_rfl) (fun _=>rfl) aMZ) (by kernel_rfl) (by kernel_rfl)) aQ6 K
def sH:aW:={ fid:=150,Γ:=[(.list false (.int .u8))],args:=[(.row 0 0)],sto:=[(0,(.list 5 0 none))],nk:=1,Δ:=[(.list false (.int .u8))],res:=(.tup []),sto':=[(0,(.list 5 0 none))],nk':=1,f:=fun k x=>slices_Reverse k x }
def aAo:LH ((List Int)):={ Γ:=[(.list false (.int .u8)),(.int .i64),(.int .i64)],live:=[(0,(.row 0 0)),(2,(.var 1)),(3,(.var 2))],sto:=[(0,(.list 5 0 none))],nk:=1,F:=fun k x=>fK k x.1 x.2.1 x.2.2 }
def aCy:aG ((List Int)):={ ord:=[(3,[.l 0,.l 1,.l 2,.l 3,.l 4,.l 5,.l 6,.l 7,.l 8,.l 9,.l 10,.l 11,.l 12,.h 13,.l 14,.h 15])],loops:=[(1,aAo)] }
def aCF:List aW:=[]
theorem aOj (k:Nat) (x:(List Int)):slices_Reverse k x=fx xt aCF sH Tryz.f150 aCy (aA Tryz.f150) k x:=by kernel_rfl
theorem aJM (k:Nat) (x:(List Int)×Int×Int):fK (k+1) x.1 x.2.1 x.2.2=iW xt aCF 28 1 aCy (aA Tryz.f150) (iI xt.T Tryz.f150.results sH) 0 aAo k x:=(fK.eq_def ..).trans (by kernel_rfl)
theorem aOI (K:Nat):aE Tryz.prog sH K:=aJ (X:=xt) (g:=sH) (H:=aCy) (env:=aCF) (c:=aA Tryz.f150) aK mixed (fun k=>aB.nil) Tryz.func150 (by kernel_rfl) (by kernel_rfl) (by kernel_rfl) (aD.all (aD.zero.succ aAo (by kernel_rfl) (fun _=>rfl) aJM) (by kernel_rfl) (by kernel_rfl)) aOj K
def pP:aW:={ fid:=120,Γ:=[(.int .i64)],args:=[(.var 0)],Δ:=[.str],res:=(.var 0),f:=fun k x=>uE k x }
def aCA:LH ((List UInt8)):={ Γ:=[(.int .u64),.str],live:=[(3,(.var 0)),(4,(.var 1))],F:=fun k x=>nU k x.1 x.2 }
def aCN:LH ((List UInt8)):={ Γ:=[(.int .u64),.str,(.list false (.int .u8)),.bool],live:=[(3,(.var 0)),(4,(.var 1)),(5,(.row 0 2)),(6,(.var 3))],sto:=[(0,(.list 5 2 none))],nk:=1,ad:=[.t 5 5 (.int .u8)],F:=fun k x=>lO k x.1 x.2.1 x.2.2.1 x.2.2.2 }
def aBe:aG ((List UInt8)):={ loops:=[(6,aCN)],cuts:=[(4,aCA)] }
def aBN:List aW:=[sH]
theorem aQ8 (k:Nat) (x:Int):uE k x=fx xt aBN pP Tryz.f120 aBe (aA Tryz.f120) k x:=by kernel_rfl
theorem aNq (k:Nat) (x:Int×(List UInt8)):nU (k+1) x.1 x.2=iW xt aBN 31 0 aBe (aA Tryz.f120) (iI xt.T Tryz.f120.results pP) 0 aCA k x:=(nU.eq_def ..).trans (by kernel_rfl)
theorem aMS (k:Nat) (x:Int×(List UInt8)×(List Int)×Bool):lO (k+1) x.1 x.2.1 x.2.2.1 x.2.2.2=iW xt aBN 31 0 aBe (aA Tryz.f120) (iI xt.T Tryz.f120.results pP) 1 aCN k x:=(lO.eq_def ..).trans (by kernel_rfl)
theorem aIZ (K:Nat):aE Tryz.prog pP K:=aJ (X:=xt) (g:=pP) (H:=aBe) (env:=aBN) (c:=aA Tryz.f120) aK mixed (fun k=>(aB.cons (aOI k) aB.nil)) Tryz.func120 (by kernel_rfl) (by kernel_rfl) (by kernel_rfl) (aD.all ((aD.zero.succ aCA (by kernel_rfl) (fun _=>rfl) aNq).succ aCN (by kernel_rfl) (fun _=>rfl) aMS) (by kernel_rfl) (by kernel_rfl)) aQ8 K
def sB:aW:={ fid:=83,Γ:=[.str],args:=[(.var 0)],Δ:=[(.int .i64),.str,(.int .i64),(.int .i64),(.int .i64),.bool],res:=(.tup [(.agg [(.var 0),(.var 1),(.var 2),(.var 3)]),(.var 4),(.var 5)]),f:=fun k x=>oP k x }
def aCL:LH (Int×(List UInt8)×Int×Int×Int×Bool):={ Γ:=[.str,(.int .i64)],live:=[(0,(.var 0)),(2,(.ref 0 0)),(5,(.var 1))],sto:=[(0,(.cells 73 4 [(.int .i64 0),(.str []),(.int .i64 0),(.int .i64 0)] false))],nk:=1,F:=fun k x=>iV k x.1 x.2 }
def aCC:LH (Int×(List UInt8)×Int×Int×Int×Bool):={ Γ:=[(.int .i64),(.int .i64),(.int .i64),.str,(.int .i64)],live:=[(2,(.ref 0 0)),(5,(.var 0)),(6,(.var 1)),(7,(.var 2)),(34,(.it 1))],sto:=[(0,(.cells 73 4 [(.int .i64 0),(.str []),(.int .i64 0),(.int .i64 0)] false)),(1,(.iter 3 4))],nk:=2,F:=fun k x=>gB k x.1 x.2.1 x.2.2.1 x.2.2.2.1 x.2.2.2.2 }
def aBi:aG (Int×(List UInt8)×Int×Int×Int×Bool):={ loops:=[(9,aCC)],cuts:=[(4,aCL)] }
def aBk:List aW:=[wF,sM,pP]
theorem aQA (k:Nat) (x:(List UInt8)):oP k x=fx xt aBk sB Tryz.f83 aBi (aA Tryz.f83) k x:=by kernel_rfl
theorem aMH (k:Nat) (x:(List UInt8)×Int):iV (k+1) x.1 x.2=iW xt aBk 56 0 aBi (aA Tryz.f83) (iI xt.T Tryz.f83.results sB) 0 aCL k x:=(iV.eq_def ..).trans (by kernel_rfl)
theorem aM7 (k:Nat) (x:Int×Int×Int×(List UInt8)×Int):gB (k+1) x.1 x.2.1 x.2.2.1 x.2.2.2.1 x.2.2.2.2=iW xt aBk 56 0 aBi (aA Tryz.f83) (iI xt.T Tryz.f83.results sB) 1 aCC k x:=(gB.eq_def ..).trans (by kernel_rfl)
theorem aQU (K:Nat):aE Tryz.prog sB K:=aJ (X:=xt) (g:=sB) (H:=aBi) (env:=aBk) (c:=aA Tryz.f83) aK mixed (fun k=>(aB.cons (aQW k) (aB.cons (aJa k) (aB.cons (aIZ k) aB.nil)))) Tryz.func83 (by kernel_rfl) (by kernel_rfl) (by kernel_rfl) (aD.all ((aD.zero.succ aCL (by kernel_rfl) (fun _=>rfl) aMH).succ aCC (by kernel_rfl) (fun _=>rfl) aM7) (by kernel_rfl) (by kernel_rfl)) aQA K
def aCU:aW:={ fid:=84,Γ:=[],args:=[],Δ:=[(.list false .str)],res:=(.var 0),f:=fun k _=>aDw k }
def aMx:aG ((List (List UInt8))):={}
def aLN:List aW:=[]
theorem aSH (k:Nat) (x:Unit):aDw k=fx xt aLN aCU Tryz.f84 aMx (aA Tryz.f84) k x:=by kernel_rfl
theorem aSX (K:Nat):aE Tryz.prog aCU K:=aJ (X:=xt) (g:=aCU) (H:=aMx) (env:=aLN) (c:=aA Tryz.f84) aK mixed (fun k=>aB.nil) Tryz.func84 (by kernel_rfl) (by kernel_rfl) (by kernel_rfl) (aD.all aD.zero (by kernel_rfl) (by kernel_rfl)) aSH K
def zK:aW:={ fid:=53,Γ:=[.str],args:=[(.var 0)],Δ:=[(.int .i64),.str,(.int .i64),(.int .i64),(.int .i64),.bool],res:=(.tup [(.agg [(.var 0),(.var 1),(.var 2),(.var 3)]),(.var 4),(.var 5)]),f:=fun k x=>nH k x }
def aDN:LH (Int×(List UInt8)×Int×Int×Int×Bool):={ Γ:=[.str,(.list false .str),(.int .i64)],live:=[(0,(.var 0)),(2,(.ref 0 0)),(32,(.var 1)),(33,(.len 1)),(34,(.var 2))],sto:=[(0,(.cells 73 4 [(.int .i64 0),(.str []),(.int .i64 0),(.int .i64 0)] false))],nk:=1,F:=fun k x=>mY k x.1 x.2.1 x.2.2 }
def aGE:aG (Int×(List UInt8)×Int×Int×Int×Bool):={ loops:=[(7,aDN)] }
def aGz:List aW:=[zQ,mU,aB7,sB,aCU,lG]
theorem aTg (k:Nat) (x:(List UInt8)):nH k x=fx xt aGz zK Tryz.f53 aGE (aA Tryz.f53) k x:=by kernel_rfl
theorem aNH (k:Nat) (x:(List UInt8)×(List (List UInt8))×Int):mY (k+1) x.1 x.2.1 x.2.2=iW xt aGz 47 0 aGE (aA Tryz.f53) (iI xt.T Tryz.f53.results zK) 0 aDN k x:=(mY.eq_def ..).trans (by kernel_rfl)
theorem aRD (K:Nat):aE Tryz.prog zK K:=aJ (X:=xt) (g:=zK) (H:=aGE) (env:=aGz) (c:=aA Tryz.f53) aK mixed (fun k=>(aB.cons (aTh k) (aB.cons (sC k) (aB.cons (aTO k) (aB.cons (aQU k) (aB.cons (aSX k) (aB.cons (xE k) aB.nil))))))) Tryz.func53 (by kernel_rfl) (by kernel_rfl) (by kernel_rfl) (aD.all (aD.zero.succ aDN (by kernel_rfl) (fun _=>rfl) aNH) (by kernel_rfl) (by kernel_rfl)) aTg K
def aA6:aW:={ fid:=22,Γ:=[.str],args:=[(.var 0)],Δ:=[jD,(.int .i64),(.int .i64)],res:=(.tup [(.var 0),(.var 1),(.var 2)]),f:=fun k x=>qJ k x }
def aGQ:LH (bI×Int×Int):={ Γ:=[.str,jD,(.int .i64)],live:=[(0,(.var 0)),(2,(.row 0 1)),(3,(.var 2))],sto:=[(0,(.list 73 1 none))],nk:=1,ad:=[.t 2 73 (.pair (.int .i64) (.pair .str (.pair (.int .i64) (.int .i64))))],F:=fun k x=>eW k x.1 x.2.1 x.2.2 }
def aGU:LH (bI×Int×Int):={ Γ:=[.str,jD,(.int .i64),(.int .i64),(.int .i64),.str,(.int .i64),(.int .i64)],live:=[(0,(.var 0)),(2,(.row 1 1)),(3,(.var 2)),(8,(.var 3)),(9,(.ref 0 0))],sto:=[(0,(.cells 73 4 [(.var 4),(.var 5),(.var 6),(.var 7)] false)),(1,(.list 73 1 none))],nk:=2,ad:=[.t 2 73 (.pair (.int .i64) (.pair .str (.pair (.int .i64) (.int .i64))))],F:=fun k x=>sV k x.1 x.2.1 x.2.2.1 x.2.2.2.1 x.2.2.2.2.1 x.2.2.2.2.2.1 x.2.2.2.2.2.2.1 x.2.2.2.2.2.2.2 }
def aGc:aG (bI×Int×Int):={ loops:=[(4,aGQ)],cuts:=[(17,aGU)] }
def aGl:List aW:=[zS,aB0,lG,uM,zK]
theorem aVH (k:Nat) (x:(List UInt8)):qJ k x=fx xt aGl aA6 Tryz.f22 aGc (aA Tryz.f22) k x:=by kernel_rfl
theorem aRc (k:Nat) (x:(List UInt8)×bI×Int):eW (k+1) x.1 x.2.1 x.2.2=iW xt aGl 65 0 aGc (aA Tryz.f22) (iI xt.T Tryz.f22.results aA6) 0 aGQ k x:=(eW.eq_def ..).trans (by kernel_rfl)
theorem aQH (k:Nat) (x:(List UInt8)×bI×Int×Int×Int×(List UInt8)×Int×Int):sV (k+1) x.1 x.2.1 x.2.2.1 x.2.2.2.1 x.2.2.2.2.1 x.2.2.2.2.2.1 x.2.2.2.2.2.2.1 x.2.2.2.2.2.2.2=iW xt aGl 65 0 aGc (aA Tryz.f22) (iI xt.T Tryz.f22.results aA6) 1 aGU k x:=(sV.eq_def ..).trans (by kernel_rfl)
theorem aWo (K:Nat):aE Tryz.prog aA6 K:=aJ (X:=xt) (g:=aA6) (H:=aGc) (env:=aGl) (c:=aA Tryz.f22) aK mixed (fun k=>(aB.cons (aSe k) (aB.cons (aUb k) (aB.cons (xE k) (aB.cons (aPF k) (aB.cons (aRD k) aB.nil)))))) Tryz.func22 (by kernel_rfl) (by kernel_rfl) (by kernel_rfl) (aD.all ((aD.zero.succ aGQ (by kernel_rfl) (fun _=>rfl) aRc).succ aGU (by kernel_rfl) (fun _=>rfl) aQH) (by kernel_rfl) (by kernel_rfl)) aVH K
def aEp:aW:={ fid:=54,Γ:=[jD,(.int .i64)],args:=[(.var 0),(.var 1)],Δ:=[jD,(.int .i64),(.int .i64)],res:=(.ref 0 0),sto':=[(0,(.cells 104 3 [(.var 0),(.var 1),(.var 2)] false))],nk':=1,f:=fun k x=>aE3 k x.1 x.2 }
def aNv:aG (bI×Int×Int):={}
def aOp:List aW:=[]
theorem aUr (k:Nat) (x:bI×Int):aE3 k x.1 x.2=fx xt aOp aEp Tryz.f54 aNv (aA Tryz.f54) k x:=by kernel_rfl
theorem aT3 (K:Nat):aE Tryz.prog aEp K:=aJ (X:=xt) (g:=aEp) (H:=aNv) (env:=aOp) (c:=aA Tryz.f54) aK mixed (fun k=>aB.nil) Tryz.func54 (by kernel_rfl) (by kernel_rfl) (by kernel_rfl) (aD.all aD.zero (by kernel_rfl) (by kernel_rfl)) aUr K
def aCB:aW:={ fid:=151,Γ:=[jD,(.int .i64)],args:=[(.var 0),(.var 1)],Δ:=[.bool],res:=(.var 0),f:=fun k x=>aFz k x.1 x.2 }
def aRK:aG (Bool):={}
def aTn:List aW:=[]
theorem aWV (k:Nat) (x:bI×Int):aFz k x.1 x.2=fx xt aTn aCB Tryz.f151 aRK (aA Tryz.f151) k x:=by kernel_rfl
theorem aKR (K:Nat):aE Tryz.prog aCB K:=aJ (X:=xt) (g:=aCB) (H:=aRK) (env:=aTn) (c:=aA Tryz.f151) aK mixed (fun k=>aB.nil) Tryz.func151 (by kernel_rfl) (by kernel_rfl) (by kernel_rfl) (aD.all aD.zero (by kernel_rfl) (by kernel_rfl)) aWV K
def sP:aW:={ fid:=122,Γ:=[jD,(.int .i64),.str],args:=[(.var 0),(.var 1),(.var 2)],Δ:=[.bool],res:=(.var 0),f:=fun k x=>lK k x.1 x.2.1 x.2.2 }
def aP3:aG (Bool):={}
def aP9:List aW:=[aCB]
theorem aWk (k:Nat) (x:bI×Int×(List UInt8)):lK k x.1 x.2.1 x.2.2=fx xt aP9 sP Tryz.f122 aP3 (aA Tryz.f122) k x:=by kernel_rfl
theorem aB9 (K:Nat):aE Tryz.prog sP K:=aJ (X:=xt) (g:=sP) (H:=aP3) (env:=aP9) (c:=aA Tryz.f122) aK mixed (fun k=>(aB.cons (aKR k) aB.nil)) Tryz.func122 (by kernel_rfl) (by kernel_rfl) (by kernel_rfl) (aD.all aD.zero (by kernel_rfl) (by kernel_rfl)) aWk K
def fJ:aW:={ fid:=86,Γ:=[jD,(.int .i64),(.int .i64),.str],args:=[(.ref 0 0),(.var 3)],sto:=[(0,(.cells 104 3 [(.var 0),(.var 1),(.var 2)] false))],nk:=1,Δ:=[.bool,jD,(.int .i64),(.int .i64)],res:=(.var 0),sto':=[(0,(.cells 104 3 [(.var 1),(.var 2),(.var 3)] false))],nk':=1,f:=fun k x=>aT k x.1 x.2.1 x.2.2.1 x.2.2.2 }
def aGf:aG (Bool×bI×Int×Int):={ ord:=[(1,[.l 0,.l 1,.l 2,.l 3,.l 4,.l 5,.l 6,.l 7,.l 8,.l 9,.l 10,.l 11,.l 12,.l 13,.l 14,.h 15,.l 16,.l 17])] }
def aGd:List aW:=[sP]
theorem aNa (k:Nat) (x:bI×Int×Int×(List UInt8)):aT k x.1 x.2.1 x.2.2.1 x.2.2.2=fx xt aGd fJ Tryz.f86 aGf (aA Tryz.f86) k x:=by kernel_rfl
theorem kF (K:Nat):aE Tryz.prog fJ K:=aJ (X:=xt) (g:=fJ) (H:=aGf) (env:=aGd) (c:=aA Tryz.f86) aK mixed (fun k=>(aB.cons (aB9 k) aB.nil)) Tryz.func86 (by kernel_rfl) (by kernel_rfl) (by kernel_rfl) (aD.all aD.zero (by kernel_rfl) (by kernel_rfl)) aNa K
def fN:aW:={ fid:=112,Γ:=[.str],args:=[(.var 0)],Δ:=[.bool],res:=(.var 0),f:=fun k x=>eL k x }
def aMu:aG (Bool):={}
def aME:List aW:=[xR,aBS]
theorem aS3 (k:Nat) (x:(List UInt8)):eL k x=fx xt aME fN Tryz.f112 aMu (aA Tryz.f112) k x:=by kernel_rfl
theorem iM (K:Nat):aE Tryz.prog fN K:=aJ (X:=xt) (g:=fN) (H:=aMu) (env:=aME) (c:=aA Tryz.f112) aK mixed (fun k=>(aB.cons (aLZ k) (aB.cons (aLP k) aB.nil))) Tryz.func112 (by kernel_rfl) (by kernel_rfl) (by kernel_rfl) (aD.all aD.zero (by kernel_rfl) (by kernel_rfl)) aS3 K
def tA:aW:={ fid:=121,Γ:=[jD,(.int .i64)],args:=[(.var 0),(.var 1)],Δ:=[.str,.bool],res:=(.tup [(.var 0),(.var 1)]),f:=fun k x=>wR k x.1 x.2 }
def aOD:aG ((List UInt8)×Bool):={}
def aNK:List aW:=[aCB,fN]
theorem aTT (k:Nat) (x:bI×Int):wR k x.1 x.2=fx xt aNK tA Tryz.f121 aOD (aA Tryz.f121) k x:=by kernel_rfl
theorem aCT (K:Nat):aE Tryz.prog tA K:=aJ (X:=xt) (g:=tA) (H:=aOD) (env:=aNK) (c:=aA Tryz.f121) aK mixed (fun k=>(aB.cons (aKR k) (aB.cons (iM k) aB.nil))) Tryz.func121 (by kernel_rfl) (by kernel_rfl) (by kernel_rfl) (aD.all aD.zero (by kernel_rfl) (by kernel_rfl)) aTT K
def fV:aW:={ fid:=125,Γ:=[jD,(.int .i64),(.int .i64),(.int .i64)],args:=[(.ref 0 0),(.var 3)],sto:=[(0,(.cells 104 3 [(.var 0),(.var 1),(.var 2)] false))],nk:=1,Δ:=[jD,(.int .i64),(.int .i64)],res:=(.tup []),sto':=[(0,(.cells 104 3 [(.var 0),(.var 1),(.var 2)] false))],nk':=1,f:=fun k x=>dR k x.1 x.2.1 x.2.2.1 x.2.2.2 }
def aFO:aG (bI×Int×Int):={}
def aFF:List aW:=[]
theorem aLo (k:Nat) (x:bI×Int×Int×Int):dR k x.1 x.2.1 x.2.2.1 x.2.2.2=fx xt aFF fV Tryz.f125 aFO (aA Tryz.f125) k x:=by kernel_rfl
theorem lF (K:Nat):aE Tryz.prog fV K:=aJ (X:=xt) (g:=fV) (H:=aFO) (env:=aFF) (c:=aA Tryz.f125) aK mixed (fun k=>aB.nil) Tryz.func125 (by kernel_rfl) (by kernel_rfl) (by kernel_rfl) (aD.all aD.zero (by kernel_rfl) (by kernel_rfl)) aLo K
def nL:aW:={ fid:=126,Γ:=[jD,(.int .i64),(.int .i64)],args:=[(.ref 0 0),(.fn 121 [] [])],sto:=[(0,(.cells 104 3 [(.var 0),(.var 1),(.var 2)] false))],nk:=1,Δ:=[.str,jD,(.int .i64),(.int .i64)],res:=(.var 0),sto':=[(0,(.cells 104 3 [(.var 1),(.var 2),(.var 3)] false))],nk':=1,f:=fun k x=>hQ k x.1 x.2.1 x.2.2 }
def aA0:aG ((List UInt8)×bI×Int×Int):={ ord:=[(1,[.l 0,.l 1,.l 2,.l 3,.l 4,.l 5,.l 6,.l 7,.l 8,.h 9,.l 10,.l 11,.l 12,.l 13,.l 14])] }
def aAU:List aW:=[tA,fV]
theorem aGT (k:Nat) (x:bI×Int×Int):hQ k x.1 x.2.1 x.2.2=fx xt aAU nL Tryz.f126 aA0 (aA Tryz.f126) k x:=by kernel_rfl
theorem aGD (K:Nat):aE Tryz.prog nL K:=aJ (X:=xt) (g:=nL) (H:=aA0) (env:=aAU) (c:=aA Tryz.f126) aK mixed (fun k=>(aB.cons (aCT k) (aB.cons (lF k) aB.nil))) Tryz.func126 (by kernel_rfl) (by kernel_rfl) (by kernel_rfl) (aD.all aD.zero (by kernel_rfl) (by kernel_rfl)) aGT K
def mJ:aW:={ fid:=123,Γ:=[jD,(.int .i64),(.int .i64)],args:=[(.ref 0 0)],sto:=[(0,(.cells 104 3 [(.var 0),(.var 1),(.var 2)] false))],nk:=1,Δ:=[.str,jD,(.int .i64),(.int .i64)],res:=(.var 0),sto':=[(0,(.cells 104 3 [(.var 1),(.var 2),(.var 3)] false))],nk':=1,f:=fun k x=>bU k x.1 x.2.1 x.2.2 }
def aFh:aG ((List UInt8)×bI×Int×Int):={}
def aFK:List aW:=[nL]
theorem aLv (k:Nat) (x:bI×Int×Int):bU k x.1 x.2.1 x.2.2=fx xt aFK mJ Tryz.f123 aFh (aA Tryz.f123) k x:=by kernel_rfl
theorem yO (K:Nat):aE Tryz.prog mJ K:=aJ (X:=xt) (g:=mJ) (H:=aFh) (env:=aFK) (c:=aA Tryz.f123) aK mixed (fun k=>(aB.cons (aGD k) aB.nil)) Tryz.func123 (by kernel_rfl) (by kernel_rfl) (by kernel_rfl) (aD.all aD.zero (by kernel_rfl) (by kernel_rfl)) aLv K
def zX:aW:={ fid:=42,Γ:=[(.int .i64),.str],args:=[(.var 0),(.var 1),.nils],Δ:=[(.int .i64),(.int .i64),.str,.str],res:=(.ref 0 0),sto':=[(0,(.cells 60 5 [(.var 0),(.var 1),(.var 2),(.var 3),.nils] false))],nk':=1,f:=fun k x=>qX k x.1 x.2 }
def aMv:aG (Int×Int×(List UInt8)×(List UInt8)):={}
def aMC:List aW:=[]
def aGB:XT:={ xt with objs:=[60]++xt.objs }
theorem aS0 (k:Nat) (x:Int×(List UInt8)):qX k x.1 x.2=fx aGB aMC zX Tryz.f42 aMv (aA Tryz.f42) k x:=by kernel_rfl
theorem aJ8 (K:Nat):aE Tryz.prog zX K:=aJ (X:=aGB) (g:=zX) (H:=aMv) (env:=aMC) (c:=aA Tryz.f42) (show XOk Tryz.prog aGB from ⟨jW,aK.tab⟩) mixed (fun k=>aB.nil) Tryz.func42 (by kernel_rfl) (by kernel_rfl) (by kernel_rfl) (aD.all aD.zero (by kernel_rfl) (by kernel_rfl)) aS0 K
def zP:aW:={ fid:=152,Γ:=[jD,(.int .i64)],args:=[(.var 0),(.var 1)],Δ:=[jD,(.int .i64),(.int .i64)],res:=(.ref 0 0),sto':=[(0,(.cells 149 3 [(.var 0),(.var 1),(.var 2)] false))],nk':=1,f:=fun k x=>aAV k x.1 x.2 }
def aL3:aG (bI×Int×Int):={}
def aMA:List aW:=[]
theorem aR0 (k:Nat) (x:bI×Int):aAV k x.1 x.2=fx xt aMA zP Tryz.f152 aL3 (aA Tryz.f152) k x:=by kernel_rfl
theorem aJQ (K:Nat):aE Tryz.prog zP K:=aJ (X:=xt) (g:=zP) (H:=aL3) (env:=aMA) (c:=aA Tryz.f152) aK mixed (fun k=>aB.nil) Tryz.func152 (by kernel_rfl) (by kernel_rfl) (by kernel_rfl) (aD.all aD.zero (by kernel_rfl) (by kernel_rfl)) aR0 K
def jX:aW:={ fid:=191,Γ:=[.str],args:=[(.var 0)],Δ:=[(.int .i64)],res:=(.var 0),f:=fun k x=>utf8_RuneCountInString k x }
def pO:LH (Int):={ Γ:=[(.int .i64),.str,(.int .i64)],live:=[(2,(.var 0)),(4,(.it 0))],sto:=[(0,(.iter 1 2))],nk:=1,F:=fun k x=>jG k x.1 x.2.1 x.2.2 }
def rN:aG (Int):={ loops:=[(2,pO)] }
def rK:List aW:=[]
theorem aF4 (k:Nat) (x:(List UInt8)):utf8_RuneCountInString k x=fx xt rK jX Tryz.f191 rN (aA Tryz.f191) k x:=by kernel_rfl
theorem aDP (k:Nat) (x:Int×(List UInt8)×Int):jG (k+1) x.1 x.2.1 x.2.2=iW xt rK 10 0 rN (aA Tryz.f191) (iI xt.T Tryz.f191.results jX) 0 pO k x:=(jG.eq_def ..).trans (by kernel_rfl)
theorem aF3 (K:Nat):aE Tryz.prog jX K:=aJ (X:=xt) (g:=jX) (H:=rN) (env:=rK) (c:=aA Tryz.f191) aK mixed (fun k=>aB.nil) Tryz.func191 (by kernel_rfl) (by kernel_rfl) (by kernel_rfl) (aD.all (aD.zero.succ pO (by kernel_rfl) (fun _=>rfl) aDP) (by kernel_rfl) (by kernel_rfl)) aF4 K
def fQ:aW:={ fid:=205,Γ:=[.str],args:=[(.var 0)],Δ:=[(.int .i32),(.int .i64)],res:=(.tup [(.var 0),(.var 1)]),f:=fun k x=>utf8_decodeRuneInStringSlow k x }
def lR:LH (Int×Int):={ Γ:=[.str,(.int .u8),(.int .i64),(.int .u8)],live:=[(0,(.var 0)),(5,(.var 1)),(8,(.var 2)),(10,(.var 3))],F:=fun k x=>jA k x.1 x.2.1 x.2.2.1 x.2.2.2 }
def mV:aG (Int×Int):={ cuts:=[(16,lR)] }
def nG:List aW:=[]
theorem aCq (k:Nat) (x:(List UInt8)):utf8_decodeRuneInStringSlow k x=fx xt nG fQ Tryz.f205 mV (aA Tryz.f205) k x:=by kernel_rfl
theorem aBd (k:Nat) (x:(List UInt8)×Int×Int×Int):jA (k+1) x.1 x.2.1 x.2.2.1 x.2.2.2=iW xt nG 117 0 mV (aA Tryz.f205) (iI xt.T Tryz.f205.results fQ) 0 lR k x:=(jA.eq_def ..).trans (by kernel_rfl)
theorem aCQ (K:Nat):aE Tryz.prog fQ K:=aJ (X:=xt) (g:=fQ) (H:=mV) (env:=nG) (c:=aA Tryz.f205) aK mixed (fun k=>aB.nil) Tryz.func205 (by kernel_rfl) (by kernel_rfl) (by kernel_rfl) (aD.all (aD.zero.succ lR (by kernel_rfl) (fun _=>rfl) aBd) (by kernel_rfl) (by kernel_rfl)) aCq K
def lS:aW:={ fid:=192,Γ:=[.str],args:=[(.var 0)],Δ:=[(.int .i32),(.int .i64)],res:=(.tup [(.var 0),(.var 1)]),f:=fun k x=>utf8_DecodeRuneInString k x }
def yF:aG (Int×Int):={}
def yE:List aW:=[fQ]
theorem aFt (k:Nat) (x:(List UInt8)):utf8_DecodeRuneInString k x=fx xt yE lS Tryz.f192 yF (aA Tryz.f192) k x:=by kernel_rfl
theorem aFC (K:Nat):aE Tryz.prog lS K:=aJ (X:=xt) (g:=lS) (H:=yF) (env:=yE) (c:=aA Tryz.f192) aK mixed (fun k=>(aB.cons (aCQ k) aB.nil)) Tryz.func192 (by kernel_rfl) (by kernel_rfl) (by kernel_rfl) (aD.all aD.zero (by kernel_rfl) (by kernel_rfl)) aFt K
def nR:aW:={ fid:=182,Γ:=[.str,(.int .i64)],args:=[(.var 0),(.var 1)],Δ:=[(.list false .str)],res:=(.var 0),f:=fun k x=>aDJ k x.1 x.2 }
def yZ:LH ((List (List UInt8))):={ Γ:=[.str,(.int .i64)],live:=[(0,(.var 0)),(1,(.var 1))],F:=fun k x=>mF k x.1 x.2 }
def yM:LH ((List (List UInt8))):={ Γ:=[.str,(.int .i64),(.list false .str),(.int .i64)],live:=[(0,(.var 0)),(1,(.var 1)),(6,(.row 0 2)),(7,(.var 3))],sto:=[(0,(.list 9 2 none))],nk:=1,F:=fun k x=>pV k x.1 x.2.1 x.2.2.1 x.2.2.2 }
def vF:aG ((List (List UInt8))):={ loops:=[(6,yM)],cuts:=[(4,yZ)] }
def vL:List aW:=[jX,lS]
theorem aNk (k:Nat) (x:(List UInt8)×Int):aDJ k x.1 x.2=fx xt vL nR Tryz.f182 vF (aA Tryz.f182) k x:=by kernel_rfl
theorem aJi (k:Nat) (x:(List UInt8)×Int):mF (k+1) x.1 x.2=iW xt vL 50 0 vF (aA Tryz.f182) (iI xt.T Tryz.f182.results nR) 0 yZ k x:=(mF.eq_def ..).trans (by kernel_rfl)
theorem aJg (k:Nat) (x:(List UInt8)×Int×(List (List UInt8))×Int):pV (k+1) x.1 x.2.1 x.2.2.1 x.2.2.2=iW xt vL 50 0 vF (aA Tryz.f182) (iI xt.T Tryz.f182.results nR) 1 yM k x:=(pV.eq_def ..).trans (by kernel_rfl)
theorem aM8 (K:Nat):aE Tryz.prog nR K:=aJ (X:=xt) (g:=nR) (H:=vF) (env:=vL) (c:=aA Tryz.f182) aK mixed (fun k=>(aB.cons (aF3 k) (aB.cons (aFC k) aB.nil))) Tryz.func182 (by kernel_rfl) (by kernel_rfl) (by kernel_rfl) (aD.all ((aD.zero.succ yZ (by kernel_rfl) (fun _=>rfl) aJi).succ yM (by kernel_rfl) (fun _=>rfl) aJg) (by kernel_rfl) (by kernel_rfl)) aNk K
def aIM:aW:={ fid:=183,Γ:=[.str,.str],args:=[(.var 0),(.var 1)],Δ:=[(.int .i64)],res:=(.var 0),f:=fun k x=>strings_Count k x.1 x.2 }
set_option maxHeartbeats 2000000 in
theorem aQD (s:ByteArray) (c:UInt8) (w:World):Calls Tryz.prog 183 #[.string s,.string ⟨#[c]⟩] w fun e w'=>e=.returned (.int .i64 (Lib.countByte s.data.toList c))∧w'=w:=by
 go_enter Tryz.func183,Tryz.ntmps183
 go_wp2
 rw [run_callFunc_extern Tryz.func193 (by kernel_rfl) (by kernel_rfl) (by kernel_rfl) (e:=Extern.BytealgCount.count) (by kernel_rfl),Lib.run_countString]
 simp only [Result.andThen]
 rw [Oper.upon_value]
 go_wp2
 go_ret
 exact ⟨rfl,rfl⟩
theorem aPv (K:Nat):aE Tryz.prog aIM K:=aSP (f:=strings_Count) ⟨_,Tryz.func183,by kernel_rfl,by kernel_rfl⟩ fun a b y h w=>by
 unfold strings_Count at h
 split at h
 ·cases h; exact aQD ⟨a.toArray⟩ _ w
 ·cases h
def aIU:aW:={ fid:=184,Γ:=[.str,.str],args:=[(.var 0),(.var 1)],Δ:=[(.int .i64)],res:=(.var 0),f:=fun k x=>strings_Index k x.1 x.2 }
set_option maxHeartbeats 2000000 in
theorem aXa (s:ByteArray) (c:Int) (w:World):Calls Tryz.prog 206 #[.string s,.int .u8 c] w fun e w'=>e=.returned (.int .i64 (Lib.indexByte s.data.toList c.toNat.toUInt8))∧w'=w:=by
 go_enter Tryz.func206,Tryz.ntmps206
 go_wp2
 rw [run_callFunc_extern Tryz.func213 (by kernel_rfl) (by kernel_rfl) (by kernel_rfl) (e:=Extern.BytealgIndexByte.indexByte) (by kernel_rfl),Lib.run_indexByteString]
 simp only [Result.andThen]
 rw [Oper.upon_value]
 go_wp2
 go_ret
 exact ⟨rfl,rfl⟩
set_option maxHeartbeats 2000000 in
theorem aWT (s:ByteArray) (c:UInt8) (w:World):Calls Tryz.prog 194 #[.string s,.string ⟨#[c]⟩] w fun e w'=>e=.returned (.int .i64 (Lib.indexByte s.data.toList c))∧w'=w:=by
 go_enter Tryz.func194,Tryz.ntmps194
 go_wp2_with (go_at_call 206; refine (aXa _ _ _).mono ?_; rintro e w' ⟨rfl,rfl⟩)
 ·have h:([c] == s.toList)=true:=by assumption
  go_ret
  refine ⟨?_,rfl⟩
  have e:s.data.toList=[c]:=by rw [← Lib.toList_data]; exact (beq_iff_eq.1 h).symm
  rw [e]
  simp [Lib.indexByte]
 ·go_ret
  exact ⟨rfl,rfl⟩
set_option maxHeartbeats 2000000 in
theorem aQv (s:ByteArray) (c:UInt8) (w:World):Calls Tryz.prog 184 #[.string s,.string ⟨#[c]⟩] w fun e w'=>e=.returned (.int .i64 (Lib.indexByte s.data.toList c))∧w'=w:=by
 go_enter Tryz.func184,Tryz.ntmps184
 go_wp2_with (go_at_call 194; refine (aWT _ _ _).mono ?_; rintro e w' ⟨rfl,rfl⟩)
 go_ret
 exact ⟨rfl,rfl⟩
theorem aPo (K:Nat):aE Tryz.prog aIU K:=aSP (f:=strings_Index) ⟨_,Tryz.func184,by kernel_rfl,by kernel_rfl⟩ fun a b y h w=>by
 unfold strings_Index at h
 split at h
 ·cases h; exact aQv ⟨a.toArray⟩ _ w
 ·cases h
def mG:aW:={ fid:=169,Γ:=[.str,.str,(.int .i64),(.int .i64)],args:=[(.var 0),(.var 1),(.var 2),(.var 3)],Δ:=[(.list false .str)],res:=(.var 0),f:=fun k x=>strings_genSplit k x.1 x.2.1 x.2.2.1 x.2.2.2 }
def wC:LH ((List (List UInt8))):={ Γ:=[.str,.str,(.int .i64),(.int .i64)],live:=[(0,(.var 0)),(1,(.var 1)),(2,(.var 2)),(3,(.var 3))],F:=fun k x=>lJ k x.1 x.2.1 x.2.2.1 x.2.2.2 }
def vT:LH ((List (List UInt8))):={ Γ:=[.str,.str,(.int .i64),(.int .i64),(.list false .str),(.int .i64)],live:=[(0,(.var 0)),(1,(.var 1)),(2,(.var 2)),(3,(.var 3)),(9,(.row 0 4)),(10,(.var 5))],sto:=[(0,(.list 9 4 none))],nk:=1,F:=fun k x=>gY k x.1 x.2.1 x.2.2.1 x.2.2.2.1 x.2.2.2.2.1 x.2.2.2.2.2 }
def tC:aG ((List (List UInt8))):={ loops:=[(11,vT)],adr:=[(18,[.f 9])],cuts:=[(7,wC)] }
def tB:List aW:=[nR,aIM,aIU]
theorem aLq (k:Nat) (x:(List UInt8)×(List UInt8)×Int×Int):strings_genSplit k x.1 x.2.1 x.2.2.1 x.2.2.2=fx xt tB mG Tryz.f169 tC (aA Tryz.f169) k x:=by kernel_rfl
theorem aIj (k:Nat) (x:(List UInt8)×(List UInt8)×Int×Int):lJ (k+1) x.1 x.2.1 x.2.2.1 x.2.2.2=iW xt tB 66 0 tC (aA Tryz.f169) (iI xt.T Tryz.f169.results mG) 0 wC k x:=(lJ.eq_def ..).trans (by kernel_rfl)
theorem aHV (k:Nat) (x:(List UInt8)×(List UInt8)×Int×Int×(List (List UInt8))×Int):gY (k+1) x.1 x.2.1 x.2.2.1 x.2.2.2.1 x.2.2.2.2.1 x.2.2.2.2.2=iW xt tB 66 0 tC (aA Tryz.f169) (iI xt.T Tryz.f169.results mG) 1 vT k x:=(gY.eq_def ..).trans (by kernel_rfl)
theorem aLx (K:Nat):aE Tryz.prog mG K:=aJ (X:=xt) (g:=mG) (H:=tC) (env:=tB) (c:=aA Tryz.f169) aK mixed (fun k=>(aB.cons (aM8 k) (aB.cons (aPv k) (aB.cons (aPo k) aB.nil)))) Tryz.func169 (by kernel_rfl) (by kernel_rfl) (by kernel_rfl) (aD.all ((aD.zero.succ wC (by kernel_rfl) (fun _=>rfl) aIj).succ vT (by kernel_rfl) (fun _=>rfl) aHV) (by kernel_rfl) (by kernel_rfl)) aLq K
def aAf:aW:={ fid:=143,Γ:=[.str,.str],args:=[(.var 0),(.var 1)],Δ:=[(.list false .str)],res:=(.var 0),f:=fun k x=>strings_Split k x.1 x.2 }
def aI6:aG ((List (List UInt8))):={}
def aIT:List aW:=[mG]
theorem aPz (k:Nat) (x:(List UInt8)×(List UInt8)):strings_Split k x.1 x.2=fx xt aIT aAf Tryz.f143 aI6 (aA Tryz.f143) k x:=by kernel_rfl
theorem aPq (K:Nat):aE Tryz.prog aAf K:=aJ (X:=xt) (g:=aAf) (H:=aI6) (env:=aIT) (c:=aA Tryz.f143) aK mixed (fun k=>(aB.cons (aLx k) aB.nil)) Tryz.func143 (by kernel_rfl) (by kernel_rfl) (by kernel_rfl) (aD.all aD.zero (by kernel_rfl) (by kernel_rfl)) aPz K
def aBT:aW:={ fid:=141,Γ:=[.str],args:=[(.var 0)],Δ:=[.bool],res:=(.var 0),f:=fun k x=>aBw k x }
def aJV:aG (Bool):={}
def aKB:List aW:=[fN]
theorem aRh (k:Nat) (x:(List UInt8)):aBw k x=fx xt aKB aBT Tryz.f141 aJV (aA Tryz.f141) k x:=by kernel_rfl
theorem aQT (K:Nat):aE Tryz.prog aBT K:=aJ (X:=xt) (g:=aBT) (H:=aJV) (env:=aKB) (c:=aA Tryz.f141) aK mixed (fun k=>(aB.cons (iM k) aB.nil)) Tryz.func141 (by kernel_rfl) (by kernel_rfl) (by kernel_rfl) (aD.all aD.zero (by kernel_rfl) (by kernel_rfl)) aRh K
def mX:aW:={ fid:=168,Γ:=[(.list false .str)],args:=[(.var 0),(.fn 141 [] [])],Δ:=[(.int .i64)],res:=(.var 0),f:=fun k x=>tQ k x }
def uH:LH (Int):={ Γ:=[(.list false .str),(.int .i64)],live:=[(0,(.var 0)),(1,(.fn 141 [] [])),(7,(.len 0)),(8,(.var 1))],F:=fun k x=>cX k x.1 x.2 }
def vP:aG (Int):={ loops:=[(2,uH)] }
def xB:List aW:=[aBT]
theorem aJk (k:Nat) (x:(List (List UInt8))):tQ k x=fx xt xB mX Tryz.f168 vP (aA Tryz.f168) k x:=by kernel_rfl
theorem aGI (k:Nat) (x:(List (List UInt8))×Int):cX (k+1) x.1 x.2=iW xt xB 19 0 vP (aA Tryz.f168) (iI xt.T Tryz.f168.results mX) 0 uH k x:=(cX.eq_def ..).trans (by kernel_rfl)
theorem aJf (K:Nat):aE Tryz.prog mX K:=aJ (X:=xt) (g:=mX) (H:=vP) (env:=xB) (c:=aA Tryz.f168) aK mixed (fun k=>(aB.cons (aQT k) aB.nil)) Tryz.func168 (by kernel_rfl) (by kernel_rfl) (by kernel_rfl) (aD.all (aD.zero.succ uH (by kernel_rfl) (fun _=>rfl) aGI) (by kernel_rfl) (by kernel_rfl)) aJk K
def nJ:aW:={ fid:=142,Γ:=[(.list false .str)],args:=[(.var 0),(.fn 141 [] [])],Δ:=[.bool],res:=(.var 0),f:=fun k x=>qA k x }
def aA3:aG (Bool):={}
def aAZ:List aW:=[mX]
theorem aGV (k:Nat) (x:(List (List UInt8))):qA k x=fx xt aAZ nJ Tryz.f142 aA3 (aA Tryz.f142) k x:=by kernel_rfl
theorem aHb (K:Nat):aE Tryz.prog nJ K:=aJ (X:=xt) (g:=nJ) (H:=aA3) (env:=aAZ) (c:=aA Tryz.f142) aK mixed (fun k=>(aB.cons (aJf k) aB.nil)) Tryz.func142 (by kernel_rfl) (by kernel_rfl) (by kernel_rfl) (aD.all aD.zero (by kernel_rfl) (by kernel_rfl)) aGV K
def mO:aW:={ fid:=110,Γ:=[.str],args:=[(.var 0)],Δ:=[.bool],res:=(.var 0),f:=fun k x=>lZ k x }
def aOn:aG (Bool):={}
def aOE:List aW:=[aAf,nJ]
theorem aUi (k:Nat) (x:(List UInt8)):lZ k x=fx xt aOE mO Tryz.f110 aOn (aA Tryz.f110) k x:=by kernel_rfl
theorem rM (K:Nat):aE Tryz.prog mO K:=aJ (X:=xt) (g:=mO) (H:=aOn) (env:=aOE) (c:=aA Tryz.f110) aK mixed (fun k=>(aB.cons (aPq k) (aB.cons (aHb k) aB.nil))) Tryz.func110 (by kernel_rfl) (by kernel_rfl) (by kernel_rfl) (aD.all aD.zero (by kernel_rfl) (by kernel_rfl)) aUi K
def xK:aW:={ fid:=127,Γ:=[jD,(.int .i64)],args:=[(.var 0),(.var 1)],Δ:=[.str,.bool],res:=(.tup [(.var 0),(.var 1)]),f:=fun k x=>aAz k x.1 x.2 }
def aOk:aG ((List UInt8)×Bool):={}
def aOg:List aW:=[aCB,mO]
theorem aTD (k:Nat) (x:bI×Int):aAz k x.1 x.2=fx xt aOg xK Tryz.f127 aOk (aA Tryz.f127) k x:=by kernel_rfl
theorem aGF (K:Nat):aE Tryz.prog xK K:=aJ (X:=xt) (g:=xK) (H:=aOk) (env:=aOg) (c:=aA Tryz.f127) aK mixed (fun k=>(aB.cons (aKR k) (aB.cons (rM k) aB.nil))) Tryz.func127 (by kernel_rfl) (by kernel_rfl) (by kernel_rfl) (aD.all aD.zero (by kernel_rfl) (by kernel_rfl)) aTD K
def sU:aW:={ fid:=188,Γ:=[(.int .i64),.str,(.list false .tree)],args:=[(.var 0),(.var 1),(.var 2)],Δ:=[.tree],res:=(.var 0),f:=fun k x=>pT k x.1 x.2.1 x.2.2 }
def aOd:aG (Tr):={}
def aNJ:List aW:=[]
theorem aUa (k:Nat) (x:Int×(List UInt8)×(List Tr)):pT k x.1 x.2.1 x.2.2=fx xt aNJ sU Tryz.f188 aOd (aA Tryz.f188) k x:=by kernel_rfl
theorem aC5 (K:Nat):aE Tryz.prog sU K:=aJ (X:=xt) (g:=sU) (H:=aOd) (env:=aNJ) (c:=aA Tryz.f188) aK mixed (fun k=>aB.nil) Tryz.func188 (by kernel_rfl) (by kernel_rfl) (by kernel_rfl) (aD.all aD.zero (by kernel_rfl) (by kernel_rfl)) aUa K
def iP:aW:={ fid:=187,Γ:=[jD,(.int .i64),(.int .i64),.str],args:=[(.ref 0 0),(.var 3)],sto:=[(0,(.cells 149 3 [(.var 0),(.var 1),(.var 2)] false))],nk:=1,Δ:=[.bool,jD,(.int .i64),(.int .i64)],res:=(.var 0),sto':=[(0,(.cells 149 3 [(.var 1),(.var 2),(.var 3)] false))],nk':=1,f:=fun k x=>bP k x.1 x.2.1 x.2.2.1 x.2.2.2 }
def aEQ:aG (Bool×bI×Int×Int):={ ord:=[(1,[.l 0,.l 1,.l 2,.l 3,.l 4,.l 5,.l 6,.l 7,.l 8,.l 9,.l 10,.l 11,.l 12,.l 13,.l 14,.h 15,.l 16,.l 17])] }
def aEU:List aW:=[sP]
theorem aLj (k:Nat) (x:bI×Int×Int×(List UInt8)):bP k x.1 x.2.1 x.2.2.1 x.2.2.2=fx xt aEU iP Tryz.f187 aEQ (aA Tryz.f187) k x:=by kernel_rfl
theorem oH (K:Nat):aE Tryz.prog iP K:=aJ (X:=xt) (g:=iP) (H:=aEQ) (env:=aEU) (c:=aA Tryz.f187) aK mixed (fun k=>(aB.cons (aB9 k) aB.nil)) Tryz.func187 (by kernel_rfl) (by kernel_rfl) (by kernel_rfl) (aD.all aD.zero (by kernel_rfl) (by kernel_rfl)) aLj K
def jJ:aW:={ fid:=203,Γ:=[jD,(.int .i64),(.int .i64),(.int .i64)],args:=[(.ref 0 0),(.var 3)],sto:=[(0,(.cells 149 3 [(.var 0),(.var 1),(.var 2)] false))],nk:=1,Δ:=[jD,(.int .i64),(.int .i64)],res:=(.tup []),sto':=[(0,(.cells 149 3 [(.var 0),(.var 1),(.var 2)] false))],nk':=1,f:=fun k x=>cZ k x.1 x.2.1 x.2.2.1 x.2.2.2 }
def aEa:aG (bI×Int×Int):={}
def aDU:List aW:=[]
theorem aKk (k:Nat) (x:bI×Int×Int×Int):cZ k x.1 x.2.1 x.2.2.1 x.2.2.2=fx xt aDU jJ Tryz.f203 aEa (aA Tryz.f203) k x:=by kernel_rfl
theorem qU (K:Nat):aE Tryz.prog jJ K:=aJ (X:=xt) (g:=jJ) (H:=aEa) (env:=aDU) (c:=aA Tryz.f203) aK mixed (fun k=>aB.nil) Tryz.func203 (by kernel_rfl) (by kernel_rfl) (by kernel_rfl) (aD.all aD.zero (by kernel_rfl) (by kernel_rfl)) aKk K
def oG:aW:={ fid:=204,Γ:=[jD,(.int .i64),(.int .i64),.str],args:=[(.ref 0 0),(.var 3)],sto:=[(0,(.cells 149 3 [(.var 0),(.var 1),(.var 2)] false))],nk:=1,Δ:=[jD,(.int .i64),(.int .i64)],res:=(.tup []),sto':=[(0,(.cells 149 3 [(.var 0),(.var 1),(.var 2)] false))],nk':=1,f:=fun k x=>dW k x.1 x.2.1 x.2.2.1 x.2.2.2 }
def aDY:aG (bI×Int×Int):={}
def aDX:List aW:=[iP,jJ]
theorem aJP (k:Nat) (x:bI×Int×Int×(List UInt8)):dW k x.1 x.2.1 x.2.2.1 x.2.2.2=fx xt aDX oG Tryz.f204 aDY (aA Tryz.f204) k x:=by kernel_rfl
theorem aDf (K:Nat):aE Tryz.prog oG K:=aJ (X:=xt) (g:=oG) (H:=aDY) (env:=aDX) (c:=aA Tryz.f204) aK mixed (fun k=>(aB.cons (oH k) (aB.cons (qU k) aB.nil))) Tryz.func204 (by kernel_rfl) (by kernel_rfl) (by kernel_rfl) (aD.all aD.zero (by kernel_rfl) (by kernel_rfl)) aJP K
def oJ:aW:={ fid:=202,Γ:=[jD,(.int .i64),(.int .i64)],args:=[(.ref 0 0)],sto:=[(0,(.cells 149 3 [(.var 0),(.var 1),(.var 2)] false))],nk:=1,Δ:=[.str,jD,(.int .i64),(.int .i64)],res:=(.var 0),sto':=[(0,(.cells 149 3 [(.var 1),(.var 2),(.var 3)] false))],nk':=1,f:=fun k x=>fM k x.1 x.2.1 x.2.2 }
def aD9:aG ((List UInt8)×bI×Int×Int):={ ord:=[(1,[.l 0,.l 1,.l 2,.l 3,.l 4,.l 5,.l 6,.l 7,.h 8,.l 9,.l 10,.l 11,.l 12,.l 13])] }
def aDZ:List aW:=[tA,jJ]
theorem aKD (k:Nat) (x:bI×Int×Int):fM k x.1 x.2.1 x.2.2=fx xt aDZ oJ Tryz.f202 aD9 (aA Tryz.f202) k x:=by kernel_rfl
theorem aDc (K:Nat):aE Tryz.prog oJ K:=aJ (X:=xt) (g:=oJ) (H:=aD9) (env:=aDZ) (c:=aA Tryz.f202) aK mixed (fun k=>(aB.cons (aCT k) (aB.cons (qU k) aB.nil))) Tryz.func202 (by kernel_rfl) (by kernel_rfl) (by kernel_rfl) (aD.all aD.zero (by kernel_rfl) (by kernel_rfl)) aKD K
def rB:aW:={ fid:=174,Γ:=[jD,(.int .i64),(.int .i64),.tree,.str,(.int .i64)],args:=[(.ref 0 0),(.var 3),(.var 4),(.var 5),(.fn 153 [(.ref 0 0)] [])],sto:=[(0,(.cells 149 3 [(.var 0),(.var 1),(.var 2)] false))],nk:=1,Δ:=[.tree,jD,(.int .i64),(.int .i64)],res:=(.var 0),sto':=[(0,(.cells 149 3 [(.var 1),(.var 2),(.var 3)] false))],nk':=1,f:=fun k x=>iO k x.1 x.2.1 x.2.2.1 x.2.2.2.1 x.2.2.2.2.1 x.2.2.2.2.2 }
def uC:aW:={ fid:=174,Γ:=[jD,(.int .i64),(.int .i64),.tree,.str,(.int .i64)],args:=[(.ref 0 0),(.var 3),(.var 4),(.var 5),(.fn 175 [(.ref 0 0)] [])],sto:=[(0,(.cells 149 3 [(.var 0),(.var 1),(.var 2)] false))],nk:=1,Δ:=[.tree,jD,(.int .i64),(.int .i64)],res:=(.var 0),sto':=[(0,(.cells 149 3 [(.var 1),(.var 2),(.var 3)] false))],nk':=1,f:=fun k x=>kO k x.1 x.2.1 x.2.2.1 x.2.2.2.1 x.2.2.2.2.1 x.2.2.2.2.2 }
def gZ:aW:={ fid:=186,Γ:=[jD,(.int .i64),(.int .i64)],args:=[(.ref 0 0)],sto:=[(0,(.cells 149 3 [(.var 0),(.var 1),(.var 2)] false))],nk:=1,Δ:=[(.list false .tree),jD,(.int .i64),(.int .i64)],res:=(.var 0),sto':=[(0,(.cells 149 3 [(.var 1),(.var 2),(.var 3)] false))],nk':=1,f:=fun k x=>fO k x.1 x.2.1 x.2.2 }
def oL:aW:={ fid:=189,Γ:=[jD,(.int .i64),(.int .i64)],args:=[(.ref 0 0)],sto:=[(0,(.cells 149 3 [(.var 0),(.var 1),(.var 2)] false))],nk:=1,Δ:=[.tree,jD,(.int .i64),(.int .i64)],res:=(.var 0),sto':=[(0,(.cells 149 3 [(.var 1),(.var 2),(.var 3)] false))],nk':=1,f:=fun k x=>bZ k x.1 x.2.1 x.2.2 }
def lA:aW:={ fid:=175,Γ:=[jD,(.int .i64),(.int .i64)],args:=[(.ref 0 0)],sto:=[(0,(.cells 149 3 [(.var 0),(.var 1),(.var 2)] false))],nk:=1,Δ:=[.tree,jD,(.int .i64),(.int .i64)],res:=(.var 0),sto':=[(0,(.cells 149 3 [(.var 1),(.var 2),(.var 3)] false))],nk':=1,f:=fun k x=>bS k x.1 x.2.1 x.2.2 }
def iN:aW:={ fid:=153,Γ:=[jD,(.int .i64),(.int .i64)],args:=[(.ref 0 0)],sto:=[(0,(.cells 149 3 [(.var 0),(.var 1),(.var 2)] false))],nk:=1,Δ:=[.tree,jD,(.int .i64),(.int .i64)],res:=(.var 0),sto':=[(0,(.cells 149 3 [(.var 1),(.var 2),(.var 3)] false))],nk':=1,f:=fun k x=>bT k x.1 x.2.1 x.2.2 }
def aDh:aG (Tr×bI×Int×Int):={}
def aDq:List aW:=[iP,iN,sU]
theorem aJl (k:Nat) (x:bI×Int×Int×Tr×(List UInt8)×Int):iO (k+1) x.1 x.2.1 x.2.2.1 x.2.2.2.1 x.2.2.2.2.1 x.2.2.2.2.2=fx xt aDq rB Tryz.f174 aDh (aA Tryz.f174) k x:=(iO.eq_def ..).trans (by kernel_rfl)
def aFd:aG (Tr×bI×Int×Int):={}
def aEM:List aW:=[iP,lA,sU]
theorem aLw (k:Nat) (x:bI×Int×Int×Tr×(List UInt8)×Int):kO (k+1) x.1 x.2.1 x.2.2.1 x.2.2.2.1 x.2.2.2.2.1 x.2.2.2.2.2=fx xt aEM uC Tryz.f174 aFd (aA Tryz.f174) k x:=(kO.eq_def ..).trans (by kernel_rfl)
def vE:LH ((List Tr)×bI×Int×Int):={ Γ:=[(.list false .tree),jD,(.int .i64),(.int .i64),(.list false (.pair .str .bool))],live:=[(0,(.ref 0 0)),(3,(.row 2 0)),(4,(.mp 1))],sto:=[(0,(.cells 149 3 [(.var 1),(.var 2),(.var 3)] false)),(1,(.map 4)),(2,(.list 25 0 none))],nk:=3,ad:=[.t 3 25 .tree],F:=fun k x=>dO k x.1 x.2.1 x.2.2.1 x.2.2.2.1 x.2.2.2.2 }
def uW:LH ((List Tr)×bI×Int×Int):={ Γ:=[(.list false .tree),.str,jD,(.int .i64),(.int .i64),(.list false (.pair .str .bool))],live:=[(0,(.ref 0 0)),(3,(.row 2 0)),(4,(.mp 1)),(6,(.var 1))],sto:=[(0,(.cells 149 3 [(.var 2),(.var 3),(.var 4)] false)),(1,(.map 5)),(2,(.list 25 0 none))],nk:=3,ad:=[.t 3 25 .tree],F:=fun k x=>cB k x.1 x.2.1 x.2.2.1 x.2.2.2.1 x.2.2.2.2.1 x.2.2.2.2.2 }
def rV:aG ((List Tr)×bI×Int×Int):={ loops:=[(3,vE)],cuts:=[(9,uW)] }
def rW:List aW:=[oJ,jJ,oG,iN,sU,iP]
theorem aKc (k:Nat) (x:bI×Int×Int):fO (k+1) x.1 x.2.1 x.2.2=fx xt rW gZ Tryz.f186 rV (aA Tryz.f186) k x:=(fO.eq_def ..).trans (by kernel_rfl)
theorem aHh (k:Nat) (x:(List Tr)×bI×Int×Int×(List ((List UInt8)×Bool))):dO (k+1) x.1 x.2.1 x.2.2.1 x.2.2.2.1 x.2.2.2.2=iW xt rW 51 1 rV (aA Tryz.f186) (iI xt.T Tryz.f186.results gZ) 0 vE k x:=(dO.eq_def ..).trans (by kernel_rfl)
theorem aHg (k:Nat) (x:(List Tr)×(List UInt8)×bI×Int×Int×(List ((List UInt8)×Bool))):cB (k+1) x.1 x.2.1 x.2.2.1 x.2.2.2.1 x.2.2.2.2.1 x.2.2.2.2.2=iW xt rW 51 1 rV (aA Tryz.f186) (iI xt.T Tryz.f186.results gZ) 1 uW k x:=(cB.eq_def ..).trans (by kernel_rfl)
def uZ:LH (Tr×bI×Int×Int):={ Γ:=[.str,jD,(.int .i64),(.int .i64)],live:=[(0,(.ref 0 0)),(6,(.var 0))],sto:=[(0,(.cells 149 3 [(.var 1),(.var 2),(.var 3)] false))],nk:=1,F:=fun k x=>cM k x.1 x.2.1 x.2.2.1 x.2.2.2 }
def yY:aG (Tr×bI×Int×Int):={ ord:=[(3,[.l 0,.l 1,.l 2,.l 3,.l 4,.l 5,.l 6,.l 7,.h 8,.l 9,.l 10,.l 11,.l 12,.l 13])],cuts:=[(19,uZ)] }
def zC:List aW:=[xK,sU,iP,iN,oG,oJ,gZ,jJ]
theorem aJ1 (k:Nat) (x:bI×Int×Int):bZ (k+1) x.1 x.2.1 x.2.2=fx xt zC oL Tryz.f189 yY (aA Tryz.f189) k x:=(bZ.eq_def ..).trans (by kernel_rfl)
theorem aHp (k:Nat) (x:(List UInt8)×bI×Int×Int):cM (k+1) x.1 x.2.1 x.2.2.1 x.2.2.2=iW xt zC 71 1 yY (aA Tryz.f189) (iI xt.T Tryz.f189.results oL) 0 uZ k x:=(cM.eq_def ..).trans (by kernel_rfl)
def aBW:aG (Tr×bI×Int×Int):={}
def aBh:List aW:=[oL,uC]
theorem aHA (k:Nat) (x:bI×Int×Int):bS (k+1) x.1 x.2.1 x.2.2=fx xt aBh lA Tryz.f175 aBW (aA Tryz.f175) k x:=(bS.eq_def ..).trans (by kernel_rfl)
def aFk:aG (Tr×bI×Int×Int):={}
def aFr:List aW:=[lA,rB]
theorem aLz (k:Nat) (x:bI×Int×Int):bT (k+1) x.1 x.2.1 x.2.2=fx xt aFr iN Tryz.f153 aFk (aA Tryz.f153) k x:=(bT.eq_def ..).trans (by kernel_rfl)
theorem aB6 (K:Nat):aE Tryz.prog rB K∧aE Tryz.prog uC K∧aE Tryz.prog gZ K∧aE Tryz.prog oL K∧aE Tryz.prog lA K∧aE Tryz.prog iN K:=by
 induction K using Nat.strongRecOn with
 | ind K ih=>exact ⟨bC (X:=xt) (g:=rB) (H:=aDh) (env:=aDq) (c:=aA Tryz.f174) aK mixed (fun k hk=>(aB.cons (oH k) (aB.cons (ih k hk).2.2.2.2.2 (aB.cons (aC5 k) aB.nil)))) Tryz.func174 (by kernel_rfl) (by kernel_rfl) (by kernel_rfl) (aD.all aD.zero (by kernel_rfl) (by kernel_rfl)) (fun _=>rfl) aJl,bC (X:=xt) (g:=uC) (H:=aFd) (env:=aEM) (c:=aA Tryz.f174) aK mixed (fun k hk=>(aB.cons (oH k) (aB.cons (ih k hk).2.2.2.2.1 (aB.cons (aC5 k) aB.nil)))) Tryz.func174 (by kernel_rfl) (by kernel_rfl) (by kernel_rfl) (aD.all aD.zero (by kernel_rfl) (by kernel_rfl)) (fun _=>rfl) aLw,bC (X:=xt) (g:=gZ) (H:=rV) (env:=rW) (c:=aA Tryz.f186) aK mixed (fun k hk=>(aB.cons (aDc k) (aB.cons (qU k) (aB.cons (aDf k) (aB.cons (ih k hk).2.2.2.2.2 (aB.cons (aC5 k) (aB.cons (oH k) aB.nil))))))) Tryz.func186 (by kernel_rfl) (by kernel_rfl) (by kernel_rfl) (aD.all ((aD.zero.succ vE (by kernel_rfl) (fun _=>rfl) aHh).succ uW (by kernel_rfl) (fun _=>rfl) aHg) (by kernel_rfl) (by kernel_rfl)) (fun _=>rfl) aKc,bC (X:=xt) (g:=oL) (H:=yY) (env:=zC) (c:=aA Tryz.f189) aK mixed (fun k hk=>(aB.cons (aGF k) (aB.cons (aC5 k) (aB.cons (oH k) (aB.cons (ih k hk).2.2.2.2.2 (aB.cons (aDf k) (aB.cons (aDc k) (aB.cons (ih k hk).2.2.1 (aB.cons (qU k) aB.nil))))))))) Tryz.func189 (by kernel_rfl) (by kernel_rfl) (by kernel_rfl) (aD.all (aD.zero.succ uZ (by kernel_rfl) (fun _=>rfl) aHp) (by kernel_rfl) (by kernel_rfl)) (fun _=>rfl) aJ1,bC (X:=xt) (g:=lA) (H:=aBW) (env:=aBh) (c:=aA Tryz.f175) aK mixed (fun k hk=>(aB.cons (ih k hk).2.2.2.1 (aB.cons (ih k hk).2.1 aB.nil))) Tryz.func175 (by kernel_rfl) (by kernel_rfl) (by kernel_rfl) (aD.all aD.zero (by kernel_rfl) (by kernel_rfl)) (fun _=>rfl) aHA,bC (X:=xt) (g:=iN) (H:=aFk) (env:=aFr) (c:=aA Tryz.f153) aK mixed (fun k hk=>(aB.cons (ih k hk).2.2.2.2.1 (aB.cons (ih k hk).1 aB.nil))) Tryz.func153 (by kernel_rfl) (by kernel_rfl) (by kernel_rfl) (aD.all aD.zero (by kernel_rfl) (by kernel_rfl)) (fun _=>rfl) aLz⟩
theorem aKI (K:Nat):aE Tryz.prog gZ K:=(aB6 K).2.2.1
theorem aLJ (K:Nat):aE Tryz.prog iN K:=(aB6 K).2.2.2.2.2
def aBq:aW:={ fid:=129,Γ:=[jD,(.int .i64)],args:=[(.var 0),(.var 1)],Δ:=[.tree,(.int .i64),(.int .i64)],res:=(.tup [(.var 0),(.var 1),(.var 2)]),f:=fun k x=>aCP k x.1 x.2 }
def aOm:aG (Tr×Int×Int):={ ord:=[(4,[.l 0,.l 1,.l 2,.l 3,.l 4,.l 5,.l 6,.l 7,.l 8,.l 9,.l 10]),(5,[.l 0,.l 1,.l 2,.l 3,.l 4,.m 5,.l 6,.l 7])] }
def aNX:List aW:=[zP,iN]
theorem aUf (k:Nat) (x:bI×Int):aCP k x.1 x.2=fx xt aNX aBq Tryz.f129 aOm (aA Tryz.f129) k x:=by kernel_rfl
theorem aL0 (K:Nat):aE Tryz.prog aBq K:=aJ (X:=xt) (g:=aBq) (H:=aOm) (env:=aNX) (c:=aA Tryz.f129) aK mixed (fun k=>(aB.cons (aJQ k) (aB.cons (aLJ k) aB.nil))) Tryz.func129 (by kernel_rfl) (by kernel_rfl) (by kernel_rfl) (aD.all aD.zero (by kernel_rfl) (by kernel_rfl)) aUf K
def nQ:aW:={ fid:=128,Γ:=[jD,(.int .i64),(.int .i64)],args:=[(.ref 0 0),(.fn 129 [] [])],sto:=[(0,(.cells 104 3 [(.var 0),(.var 1),(.var 2)] false))],nk:=1,Δ:=[.tree,jD,(.int .i64),(.int .i64)],res:=(.var 0),sto':=[(0,(.cells 104 3 [(.var 1),(.var 2),(.var 3)] false))],nk':=1,f:=fun k x=>hZ k x.1 x.2.1 x.2.2 }
def aA8:aG (Tr×bI×Int×Int):={ ord:=[(3,[.l 0,.l 1,.l 2,.l 3,.l 4,.l 5,.l 6,.l 7,.l 8,.h 9,.l 10,.l 11,.l 12,.l 13,.l 14,.l 15,.l 16])] }
def aAR:List aW:=[aBq,fV]
theorem aGL (k:Nat) (x:bI×Int×Int):hZ k x.1 x.2.1 x.2.2=fx xt aAR nQ Tryz.f128 aA8 (aA Tryz.f128) k x:=by kernel_rfl
theorem aGJ (K:Nat):aE Tryz.prog nQ K:=aJ (X:=xt) (g:=nQ) (H:=aA8) (env:=aAR) (c:=aA Tryz.f128) aK mixed (fun k=>(aB.cons (aL0 k) (aB.cons (lF k) aB.nil))) Tryz.func128 (by kernel_rfl) (by kernel_rfl) (by kernel_rfl) (aD.all aD.zero (by kernel_rfl) (by kernel_rfl)) aGL K
def kU:aW:={ fid:=90,Γ:=[jD,(.int .i64),(.int .i64)],args:=[(.ref 0 0)],sto:=[(0,(.cells 104 3 [(.var 0),(.var 1),(.var 2)] false))],nk:=1,Δ:=[.tree,jD,(.int .i64),(.int .i64)],res:=(.var 0),sto':=[(0,(.cells 104 3 [(.var 1),(.var 2),(.var 3)] false))],nk':=1,f:=fun k x=>iT k x.1 x.2.1 x.2.2 }
def aGx:aG (Tr×bI×Int×Int):={}
def aGm:List aW:=[nQ]
theorem aM5 (k:Nat) (x:bI×Int×Int):iT k x.1 x.2.1 x.2.2=fx xt aGm kU Tryz.f90 aGx (aA Tryz.f90) k x:=by kernel_rfl
theorem tJ (K:Nat):aE Tryz.prog kU K:=aJ (X:=xt) (g:=kU) (H:=aGx) (env:=aGm) (c:=aA Tryz.f90) aK mixed (fun k=>(aB.cons (aGJ k) aB.nil)) Tryz.func90 (by kernel_rfl) (by kernel_rfl) (by kernel_rfl) (aD.all aD.zero (by kernel_rfl) (by kernel_rfl)) aM5 K
def dC:aW:={ fid:=88,Γ:=[jD,(.int .i64),(.int .i64),(.list false .str)],args:=[(.ref 0 0),(.var 3)],sto:=[(0,(.cells 104 3 [(.var 0),(.var 1),(.var 2)] false))],nk:=1,Δ:=[jD,(.int .i64),(.int .i64)],res:=(.tup []),sto':=[(0,(.cells 104 3 [(.var 0),(.var 1),(.var 2)] false))],nk':=1,f:=fun k x=>bE k x.1 x.2.1 x.2.2.1 x.2.2.2 }
def xC:LH (bI×Int×Int):={ Γ:=[(.list false .str),(.int .i64),jD,(.int .i64),(.int .i64)],live:=[(0,(.ref 0 0)),(6,(.var 0)),(7,(.len 0)),(8,(.var 1))],sto:=[(0,(.cells 104 3 [(.var 2),(.var 3),(.var 4)] false))],nk:=1,F:=fun k x=>dG k x.1 x.2.1 x.2.2.1 x.2.2.2.1 x.2.2.2.2 }
def aAA:aG (bI×Int×Int):={ loops:=[(1,xC)] }
def aAK:List aW:=[fJ,fV]
theorem aLp (k:Nat) (x:bI×Int×Int×(List (List UInt8))):bE k x.1 x.2.1 x.2.2.1 x.2.2.2=fx xt aAK dC Tryz.f88 aAA (aA Tryz.f88) k x:=by kernel_rfl
theorem aIH (k:Nat) (x:(List (List UInt8))×Int×bI×Int×Int):dG (k+1) x.1 x.2.1 x.2.2.1 x.2.2.2.1 x.2.2.2.2=iW xt aAK 19 1 aAA (aA Tryz.f88) (iI xt.T Tryz.f88.results dC) 0 xC k x:=(dG.eq_def ..).trans (by kernel_rfl)
theorem fA (K:Nat):aE Tryz.prog dC K:=aJ (X:=xt) (g:=dC) (H:=aAA) (env:=aAK) (c:=aA Tryz.f88) aK mixed (fun k=>(aB.cons (kF k) (aB.cons (lF k) aB.nil))) Tryz.func88 (by kernel_rfl) (by kernel_rfl) (by kernel_rfl) (aD.all (aD.zero.succ xC (by kernel_rfl) (fun _=>rfl) aIH) (by kernel_rfl) (by kernel_rfl)) aLp K
def eX:aW:={ fid:=195,Γ:=[jD,(.int .i64),(.int .i64),.str],args:=[(.ref 0 0),(.var 3)],sto:=[(0,(.cells 174 3 [(.var 0),(.var 1),(.var 2)] false))],nk:=1,Δ:=[.bool,jD,(.int .i64),(.int .i64)],res:=(.var 0),sto':=[(0,(.cells 174 3 [(.var 1),(.var 2),(.var 3)] false))],nk':=1,f:=fun k x=>bH k x.1 x.2.1 x.2.2.1 x.2.2.2 }
def aER:aG (Bool×bI×Int×Int):={ ord:=[(1,[.l 0,.l 1,.l 2,.l 3,.l 4,.l 5,.l 6,.l 7,.l 8,.l 9,.l 10,.l 11,.l 12,.l 13,.l 14,.h 15,.l 16,.l 17])] }
def aEN:List aW:=[sP]
theorem aLe (k:Nat) (x:bI×Int×Int×(List UInt8)):bH k x.1 x.2.1 x.2.2.1 x.2.2.2=fx xt aEN eX Tryz.f195 aER (aA Tryz.f195) k x:=by kernel_rfl
theorem jH (K:Nat):aE Tryz.prog eX K:=aJ (X:=xt) (g:=eX) (H:=aER) (env:=aEN) (c:=aA Tryz.f195) aK mixed (fun k=>(aB.cons (aB9 k) aB.nil)) Tryz.func195 (by kernel_rfl) (by kernel_rfl) (by kernel_rfl) (aD.all aD.zero (by kernel_rfl) (by kernel_rfl)) aLe K
def jK:aW:={ fid:=210,Γ:=[jD,(.int .i64),(.int .i64),(.int .i64)],args:=[(.ref 0 0),(.var 3)],sto:=[(0,(.cells 174 3 [(.var 0),(.var 1),(.var 2)] false))],nk:=1,Δ:=[jD,(.int .i64),(.int .i64)],res:=(.tup []),sto':=[(0,(.cells 174 3 [(.var 0),(.var 1),(.var 2)] false))],nk':=1,f:=fun k x=>eV k x.1 x.2.1 x.2.2.1 x.2.2.2 }
def aDT:aG (bI×Int×Int):={}
def aD3:List aW:=[]
theorem aJK (k:Nat) (x:bI×Int×Int×Int):eV k x.1 x.2.1 x.2.2.1 x.2.2.2=fx xt aD3 jK Tryz.f210 aDT (aA Tryz.f210) k x:=by kernel_rfl
theorem qO (K:Nat):aE Tryz.prog jK K:=aJ (X:=xt) (g:=jK) (H:=aDT) (env:=aD3) (c:=aA Tryz.f210) aK mixed (fun k=>aB.nil) Tryz.func210 (by kernel_rfl) (by kernel_rfl) (by kernel_rfl) (aD.all aD.zero (by kernel_rfl) (by kernel_rfl)) aJK K
def jL:aW:={ fid:=196,Γ:=[jD,(.int .i64),(.int .i64),(.list false .str)],args:=[(.ref 0 0),(.var 3)],sto:=[(0,(.cells 174 3 [(.var 0),(.var 1),(.var 2)] false))],nk:=1,Δ:=[jD,(.int .i64),(.int .i64)],res:=(.tup []),sto':=[(0,(.cells 174 3 [(.var 0),(.var 1),(.var 2)] false))],nk':=1,f:=fun k x=>bB k x.1 x.2.1 x.2.2.1 x.2.2.2 }
def uY:LH (bI×Int×Int):={ Γ:=[(.list false .str),(.int .i64),jD,(.int .i64),(.int .i64)],live:=[(0,(.ref 0 0)),(6,(.var 0)),(7,(.len 0)),(8,(.var 1))],sto:=[(0,(.cells 174 3 [(.var 2),(.var 3),(.var 4)] false))],nk:=1,F:=fun k x=>cO k x.1 x.2.1 x.2.2.1 x.2.2.2.1 x.2.2.2.2 }
def yX:aG (bI×Int×Int):={ loops:=[(1,uY)] }
def yV:List aW:=[eX,jK]
theorem aKa (k:Nat) (x:bI×Int×Int×(List (List UInt8))):bB k x.1 x.2.1 x.2.2.1 x.2.2.2=fx xt yV jL Tryz.f196 yX (aA Tryz.f196) k x:=by kernel_rfl
theorem aHi (k:Nat) (x:(List (List UInt8))×Int×bI×Int×Int):cO (k+1) x.1 x.2.1 x.2.2.1 x.2.2.2.1 x.2.2.2.2=iW xt yV 19 1 yX (aA Tryz.f196) (iI xt.T Tryz.f196.results jL) 0 uY k x:=(cO.eq_def ..).trans (by kernel_rfl)
theorem wY (K:Nat):aE Tryz.prog jL K:=aJ (X:=xt) (g:=jL) (H:=yX) (env:=yV) (c:=aA Tryz.f196) aK mixed (fun k=>(aB.cons (jH k) (aB.cons (qO k) aB.nil))) Tryz.func196 (by kernel_rfl) (by kernel_rfl) (by kernel_rfl) (aD.all (aD.zero.succ uY (by kernel_rfl) (fun _=>rfl) aHi) (by kernel_rfl) (by kernel_rfl)) aKa K
def oI:aW:={ fid:=197,Γ:=[jD,(.int .i64),(.int .i64)],args:=[(.ref 0 0)],sto:=[(0,(.cells 174 3 [(.var 0),(.var 1),(.var 2)] false))],nk:=1,Δ:=[.str,jD,(.int .i64),(.int .i64)],res:=(.var 0),sto':=[(0,(.cells 174 3 [(.var 1),(.var 2),(.var 3)] false))],nk':=1,f:=fun k x=>fL k x.1 x.2.1 x.2.2 }
def aD5:aG ((List UInt8)×bI×Int×Int):={ ord:=[(1,[.l 0,.l 1,.l 2,.l 3,.l 4,.l 5,.l 6,.l 7,.h 8,.l 9,.l 10,.l 11,.l 12,.l 13])] }
def aDV:List aW:=[tA,jK]
theorem aKp (k:Nat) (x:bI×Int×Int):fL k x.1 x.2.1 x.2.2=fx xt aDV oI Tryz.f197 aD5 (aA Tryz.f197) k x:=by kernel_rfl
theorem aDr (K:Nat):aE Tryz.prog oI K:=aJ (X:=xt) (g:=oI) (H:=aD5) (env:=aDV) (c:=aA Tryz.f197) aK mixed (fun k=>(aB.cons (aCT k) (aB.cons (qO k) aB.nil))) Tryz.func197 (by kernel_rfl) (by kernel_rfl) (by kernel_rfl) (aD.all aD.zero (by kernel_rfl) (by kernel_rfl)) aKp K
def tM:aW:={ fid:=198,Γ:=[jD,(.int .i64),(.int .i64)],args:=[(.ref 0 0)],sto:=[(0,(.cells 174 3 [(.var 0),(.var 1),(.var 2)] false))],nk:=1,Δ:=[.tree,jD,(.int .i64),(.int .i64)],res:=(.var 0),sto':=[(0,(.cells 174 3 [(.var 1),(.var 2),(.var 3)] false))],nk':=1,f:=fun k x=>jB k x.1 x.2.1 x.2.2 }
def aFT:aG (Tr×bI×Int×Int):={ ord:=[(3,[.l 0,.l 1,.l 2,.l 3,.l 4,.l 5,.l 6,.l 7,.h 8,.l 9,.l 10,.l 11,.l 12,.l 13,.l 14,.l 15])] }
def aFR:List aW:=[aBq,jK]
theorem aLs (k:Nat) (x:bI×Int×Int):jB k x.1 x.2.1 x.2.2=fx xt aFR tM Tryz.f198 aFT (aA Tryz.f198) k x:=by kernel_rfl
theorem aLl (K:Nat):aE Tryz.prog tM K:=aJ (X:=xt) (g:=tM) (H:=aFT) (env:=aFR) (c:=aA Tryz.f198) aK mixed (fun k=>(aB.cons (aL0 k) (aB.cons (qO k) aB.nil))) Tryz.func198 (by kernel_rfl) (by kernel_rfl) (by kernel_rfl) (aD.all aD.zero (by kernel_rfl) (by kernel_rfl)) aLs K
def xH:aW:={ fid:=199,Γ:=[(.int .i64),.str,(.list false .tree)],args:=[(.var 0),(.var 1),(.var 2)],Δ:=[.tree],res:=(.var 0),f:=fun k x=>kG k x.1 x.2.1 x.2.2 }
def aNA:aG (Tr):={}
def aNS:List aW:=[]
theorem aUt (k:Nat) (x:Int×(List UInt8)×(List Tr)):kG k x.1 x.2.1 x.2.2=fx xt aNS xH Tryz.f199 aNA (aA Tryz.f199) k x:=by kernel_rfl
theorem aG6 (K:Nat):aE Tryz.prog xH K:=aJ (X:=xt) (g:=xH) (H:=aNA) (env:=aNS) (c:=aA Tryz.f199) aK mixed (fun k=>aB.nil) Tryz.func199 (by kernel_rfl) (by kernel_rfl) (by kernel_rfl) (aD.all aD.zero (by kernel_rfl) (by kernel_rfl)) aUt K
def aBE:aW:={ fid:=220,Γ:=[(.int .i64),.str,(.int .i64),(.int .i64)],args:=[(.agg [(.var 0),(.var 1),(.var 2),(.var 3)])],Δ:=[.bool],res:=(.var 0),f:=fun k x=>yC k x.1 x.2.1 x.2.2.1 x.2.2.2 }
def aJ0:aG (Bool):={}
def aKM:List aW:=[]
theorem aQZ (k:Nat) (x:Int×(List UInt8)×Int×Int):yC k x.1 x.2.1 x.2.2.1 x.2.2.2=fx xt aKM aBE Tryz.f220 aJ0 (aA Tryz.f220) k x:=by kernel_rfl
theorem aQz (K:Nat):aE Tryz.prog aBE K:=aJ (X:=xt) (g:=aBE) (H:=aJ0) (env:=aKM) (c:=aA Tryz.f220) aK mixed (fun k=>aB.nil) Tryz.func220 (by kernel_rfl) (by kernel_rfl) (by kernel_rfl) (aD.all aD.zero (by kernel_rfl) (by kernel_rfl)) aQZ K
def lV:aW:={ fid:=219,Γ:=[jD,(.int .i64),(.int .i64)],args:=[(.ref 0 0)],sto:=[(0,(.cells 174 3 [(.var 0),(.var 1),(.var 2)] false))],nk:=1,Δ:=[.bool,jD,(.int .i64),(.int .i64)],res:=(.var 0),sto':=[(0,(.cells 174 3 [(.var 1),(.var 2),(.var 3)] false))],nk':=1,f:=fun k x=>hP k x.1 x.2.1 x.2.2 }
def aCk:aG (Bool×bI×Int×Int):={ ord:=[(1,[.l 0,.l 1,.l 2,.l 3,.l 4,.l 5,.l 6,.l 7,.l 8,.l 9,.l 10,.l 11,.l 12,.l 13,.l 14,.l 15,.l 16]),(6,[.l 0,.l 1,.l 2,.l 3,.l 4,.l 5,.l 6,.l 7,.l 8,.h 9]),(9,[.l 0,.l 1,.l 2,.l 3,.l 4,.l 5,.l 6,.l 7,.h 8,.l 9,.l 10,.l 11,.l 12,.l 13]),(10,[.l 0,.l 1,.l 2,.l 3,.l 4,.l 5,.l 6,.l 7,.l 8,.l 9,.l 10,.l 11,.h 12,.l 13,.l 14])],unr:=[(4,13)] }
def aCl:List aW:=[sP,xK,aBE]
theorem aHP (k:Nat) (x:bI×Int×Int):hP k x.1 x.2.1 x.2.2=fx xt aCl lV Tryz.f219 aCk (aA Tryz.f219) k x:=by kernel_rfl
theorem aB5 (K:Nat):aE Tryz.prog lV K:=aJ (X:=xt) (g:=lV) (H:=aCk) (env:=aCl) (c:=aA Tryz.f219) aK mixed (fun k=>(aB.cons (aB9 k) (aB.cons (aGF k) (aB.cons (aQz k) aB.nil)))) Tryz.func219 (by kernel_rfl) (by kernel_rfl) (by kernel_rfl) (aD.all aD.zero (by kernel_rfl) (by kernel_rfl)) aHP K
def aCH:aW:={ fid:=212,Γ:=[(.int .i64),.tree,.tree],args:=[(.var 0),(.var 1),(.var 2)],Δ:=[.tree],res:=(.var 0),f:=fun k x=>aCa k x.1 x.2.1 x.2.2 }
def aTz:aG (Tr):={}
def aS5:List aW:=[]
theorem aWY (k:Nat) (x:Int×Tr×Tr):aCa k x.1 x.2.1 x.2.2=fx xt aS5 aCH Tryz.f212 aTz (aA Tryz.f212) k x:=by kernel_rfl
theorem aKQ (K:Nat):aE Tryz.prog aCH K:=aJ (X:=xt) (g:=aCH) (H:=aTz) (env:=aS5) (c:=aA Tryz.f212) aK mixed (fun k=>aB.nil) Tryz.func212 (by kernel_rfl) (by kernel_rfl) (by kernel_rfl) (aD.all aD.zero (by kernel_rfl) (by kernel_rfl)) aWY K
def lH:aW:={ fid:=218,Γ:=[jD,(.int .i64),(.int .i64)],args:=[(.ref 0 0)],sto:=[(0,(.cells 174 3 [(.var 0),(.var 1),(.var 2)] false))],nk:=1,Δ:=[.tree,jD,(.int .i64),(.int .i64)],res:=(.var 0),sto':=[(0,(.cells 174 3 [(.var 1),(.var 2),(.var 3)] false))],nk':=1,f:=fun k x=>cH k x.1 x.2.1 x.2.2 }
def pJ:aW:={ fid:=217,Γ:=[jD,(.int .i64),(.int .i64)],args:=[(.ref 0 0)],sto:=[(0,(.cells 174 3 [(.var 0),(.var 1),(.var 2)] false))],nk:=1,Δ:=[.tree,jD,(.int .i64),(.int .i64)],res:=(.var 0),sto':=[(0,(.cells 174 3 [(.var 1),(.var 2),(.var 3)] false))],nk':=1,f:=fun k x=>eE k x.1 x.2.1 x.2.2 }
def jC:aW:={ fid:=215,Γ:=[jD,(.int .i64),(.int .i64),.str,(.list false (.int .i64))],args:=[(.ref 0 0),(.fn 217 [(.ref 0 0)] []),(.var 3),(.var 4)],sto:=[(0,(.cells 174 3 [(.var 0),(.var 1),(.var 2)] false))],nk:=1,Δ:=[.tree,jD,(.int .i64),(.int .i64)],res:=(.var 0),sto':=[(0,(.cells 174 3 [(.var 1),(.var 2),(.var 3)] false))],nk':=1,f:=fun k x=>iQ k x.1 x.2.1 x.2.2.1 x.2.2.2.1 x.2.2.2.2 }
def rT:aW:={ fid:=216,Γ:=[jD,(.int .i64),(.int .i64)],args:=[(.ref 0 0)],sto:=[(0,(.cells 174 3 [(.var 0),(.var 1),(.var 2)] false))],nk:=1,Δ:=[.tree,jD,(.int .i64),(.int .i64)],res:=(.var 0),sto':=[(0,(.cells 174 3 [(.var 1),(.var 2),(.var 3)] false))],nk':=1,f:=fun k x=>dV k x.1 x.2.1 x.2.2 }
def kL:aW:={ fid:=215,Γ:=[jD,(.int .i64),(.int .i64),.str,(.list false (.int .i64))],args:=[(.ref 0 0),(.fn 216 [(.ref 0 0)] []),(.var 3),(.var 4)],sto:=[(0,(.cells 174 3 [(.var 0),(.var 1),(.var 2)] false))],nk:=1,Δ:=[.tree,jD,(.int .i64),(.int .i64)],res:=(.var 0),sto':=[(0,(.cells 174 3 [(.var 1),(.var 2),(.var 3)] false))],nk':=1,f:=fun k x=>kJ k x.1 x.2.1 x.2.2.1 x.2.2.2.1 x.2.2.2.2 }
def uG:aW:={ fid:=211,Γ:=[jD,(.int .i64),(.int .i64)],args:=[(.ref 0 0)],sto:=[(0,(.cells 174 3 [(.var 0),(.var 1),(.var 2)] false))],nk:=1,Δ:=[.tree,jD,(.int .i64),(.int .i64)],res:=(.var 0),sto':=[(0,(.cells 174 3 [(.var 1),(.var 2),(.var 3)] false))],nk':=1,f:=fun k x=>eR k x.1 x.2.1 x.2.2 }
def uI:aW:={ fid:=201,Γ:=[jD,(.int .i64),(.int .i64)],args:=[(.ref 0 0)],sto:=[(0,(.cells 174 3 [(.var 0),(.var 1),(.var 2)] false))],nk:=1,Δ:=[.tree,jD,(.int .i64),(.int .i64)],res:=(.var 0),sto':=[(0,(.cells 174 3 [(.var 1),(.var 2),(.var 3)] false))],nk':=1,f:=fun k x=>gP k x.1 x.2.1 x.2.2 }
def nZ:aW:={ fid:=200,Γ:=[jD,(.int .i64),(.int .i64)],args:=[(.ref 0 0)],sto:=[(0,(.cells 174 3 [(.var 0),(.var 1),(.var 2)] false))],nk:=1,Δ:=[(.list false .tree),jD,(.int .i64),(.int .i64)],res:=(.var 0),sto':=[(0,(.cells 174 3 [(.var 1),(.var 2),(.var 3)] false))],nk':=1,f:=fun k x=>iF k x.1 x.2.1 x.2.2 }
def gX:aW:={ fid:=185,Γ:=[jD,(.int .i64),(.int .i64)],args:=[(.ref 0 0)],sto:=[(0,(.cells 174 3 [(.var 0),(.var 1),(.var 2)] false))],nk:=1,Δ:=[.tree,jD,(.int .i64),(.int .i64)],res:=(.var 0),sto':=[(0,(.cells 174 3 [(.var 1),(.var 2),(.var 3)] false))],nk':=1,f:=fun k x=>bA k x.1 x.2.1 x.2.2 }
def uX:LH (Tr×bI×Int×Int):={ Γ:=[jD,(.int .i64),(.int .i64)],live:=[(0,(.ref 0 0))],sto:=[(0,(.cells 174 3 [(.var 0),(.var 1),(.var 2)] false))],nk:=1,F:=fun k x=>nA k x.1 x.2.1 x.2.2 }
def yQ:aG (Tr×bI×Int×Int):={ ord:=[(4,[.l 0,.l 1,.l 2,.l 3,.l 4,.l 5,.l 6,.l 7,.l 8,.l 9,.h 10,.h 11])],cuts:=[(19,uX)] }
def yL:List aW:=[lV,jK,xH,lH,eX,gX,jL]
theorem aJ5 (k:Nat) (x:bI×Int×Int):cH (k+1) x.1 x.2.1 x.2.2=fx xt yL lH Tryz.f218 yQ (aA Tryz.f218) k x:=(cH.eq_def ..).trans (by kernel_rfl)
theorem aHu (k:Nat) (x:bI×Int×Int):nA (k+1) x.1 x.2.1 x.2.2=iW xt yL 79 1 yQ (aA Tryz.f218) (iI xt.T Tryz.f218.results lH) 0 uX k x:=(nA.eq_def ..).trans (by kernel_rfl)
def wZ:LH (Tr×bI×Int×Int):={ Γ:=[.tree,jD,(.int .i64),(.int .i64)],live:=[(0,(.ref 0 0)),(3,(.var 0))],sto:=[(0,(.cells 174 3 [(.var 1),(.var 2),(.var 3)] false))],nk:=1,F:=fun k x=>dI k x.1 x.2.1 x.2.2.1 x.2.2.2 }
def aAD:aG (Tr×bI×Int×Int):={ loops:=[(2,wZ)] }
def aAy:List aW:=[lH,lV,xH]
theorem aLD (k:Nat) (x:bI×Int×Int):eE (k+1) x.1 x.2.1 x.2.2=fx xt aAy pJ Tryz.f217 aAD (aA Tryz.f217) k x:=(eE.eq_def ..).trans (by kernel_rfl)
theorem aHW (k:Nat) (x:Tr×bI×Int×Int):dI (k+1) x.1 x.2.1 x.2.2.1 x.2.2.2=iW xt aAy 14 1 aAD (aA Tryz.f217) (iI xt.T Tryz.f217.results pJ) 0 wZ k x:=(dI.eq_def ..).trans (by kernel_rfl)
def rE:LH (Tr×bI×Int×Int):={ Γ:=[.str,(.list false (.int .i64)),.tree,jD,(.int .i64),(.int .i64)],live:=[(0,(.ref 0 0)),(1,(.fn 217 [(.ref 0 0)] [])),(2,(.var 0)),(3,(.var 1)),(9,(.var 2))],sto:=[(0,(.cells 174 3 [(.var 3),(.var 4),(.var 5)] false))],nk:=1,F:=fun k x=>bF k x.1 x.2.1 x.2.2.1 x.2.2.2.1 x.2.2.2.2.1 x.2.2.2.2.2 }
def rJ:LH (Tr×bI×Int×Int):={ Γ:=[.str,(.list false (.int .i64)),.tree,(.int .i64),jD,(.int .i64),(.int .i64)],live:=[(0,(.ref 0 0)),(1,(.fn 217 [(.ref 0 0)] [])),(2,(.var 0)),(3,(.var 1)),(9,(.var 2)),(10,(.var 3))],sto:=[(0,(.cells 174 3 [(.var 4),(.var 5),(.var 6)] false))],nk:=1,F:=fun k x=>dU k x.1 x.2.1 x.2.2.1 x.2.2.2.1 x.2.2.2.2.1 x.2.2.2.2.2.1 x.2.2.2.2.2.2 }
def oO:aG (Tr×bI×Int×Int):={ ord:=[(7,[.l 0,.l 1,.l 2,.l 3,.l 4,.l 5,.h 6,.h 7,.m 8])],loops:=[(2,rE),(3,rJ)] }
def oN:List aW:=[pJ,eX,aCH]
theorem aHz (k:Nat) (x:bI×Int×Int×(List UInt8)×(List Int)):iQ (k+1) x.1 x.2.1 x.2.2.1 x.2.2.2.1 x.2.2.2.2=fx xt oN jC Tryz.f215 oO (aA Tryz.f215) k x:=(iQ.eq_def ..).trans (by kernel_rfl)
theorem aFP (k:Nat) (x:(List UInt8)×(List Int)×Tr×bI×Int×Int):bF (k+1) x.1 x.2.1 x.2.2.1 x.2.2.2.1 x.2.2.2.2.1 x.2.2.2.2.2=iW xt oN 42 1 oO (aA Tryz.f215) (iI xt.T Tryz.f215.results jC) 0 rE k x:=(bF.eq_def ..).trans (by kernel_rfl)
theorem aFl (k:Nat) (x:(List UInt8)×(List Int)×Tr×Int×bI×Int×Int):dU (k+1) x.1 x.2.1 x.2.2.1 x.2.2.2.1 x.2.2.2.2.1 x.2.2.2.2.2.1 x.2.2.2.2.2.2=iW xt oN 42 1 oO (aA Tryz.f215) (iI xt.T Tryz.f215.results jC) 1 rJ k x:=(dU.eq_def ..).trans (by kernel_rfl)
def aD0:aG (Tr×bI×Int×Int):={}
def aD4:List aW:=[jC]
theorem aKu (k:Nat) (x:bI×Int×Int):dV (k+1) x.1 x.2.1 x.2.2=fx xt aD4 rT Tryz.f216 aD0 (aA Tryz.f216) k x:=(dV.eq_def ..).trans (by kernel_rfl)
def tO:LH (Tr×bI×Int×Int):={ Γ:=[.str,(.list false (.int .i64)),.tree,jD,(.int .i64),(.int .i64)],live:=[(0,(.ref 0 0)),(1,(.fn 216 [(.ref 0 0)] [])),(2,(.var 0)),(3,(.var 1)),(9,(.var 2))],sto:=[(0,(.cells 174 3 [(.var 3),(.var 4),(.var 5)] false))],nk:=1,F:=fun k x=>bJ k x.1 x.2.1 x.2.2.1 x.2.2.2.1 x.2.2.2.2.1 x.2.2.2.2.2 }
def sZ:LH (Tr×bI×Int×Int):={ Γ:=[.str,(.list false (.int .i64)),.tree,(.int .i64),jD,(.int .i64),(.int .i64)],live:=[(0,(.ref 0 0)),(1,(.fn 216 [(.ref 0 0)] [])),(2,(.var 0)),(3,(.var 1)),(9,(.var 2)),(10,(.var 3))],sto:=[(0,(.cells 174 3 [(.var 4),(.var 5),(.var 6)] false))],nk:=1,F:=fun k x=>cV k x.1 x.2.1 x.2.2.1 x.2.2.2.1 x.2.2.2.2.1 x.2.2.2.2.2.1 x.2.2.2.2.2.2 }
def qZ:aG (Tr×bI×Int×Int):={ ord:=[(7,[.l 0,.l 1,.l 2,.l 3,.l 4,.l 5,.h 6,.h 7,.m 8])],loops:=[(2,tO),(3,sZ)] }
def qT:List aW:=[rT,eX,aCH]
theorem aJj (k:Nat) (x:bI×Int×Int×(List UInt8)×(List Int)):kJ (k+1) x.1 x.2.1 x.2.2.1 x.2.2.2.1 x.2.2.2.2=fx xt qT kL Tryz.f215 qZ (aA Tryz.f215) k x:=(kJ.eq_def ..).trans (by kernel_rfl)
theorem aGW (k:Nat) (x:(List UInt8)×(List Int)×Tr×bI×Int×Int):bJ (k+1) x.1 x.2.1 x.2.2.1 x.2.2.2.1 x.2.2.2.2.1 x.2.2.2.2.2=iW xt qT 42 1 qZ (aA Tryz.f215) (iI xt.T Tryz.f215.results kL) 0 tO k x:=(bJ.eq_def ..).trans (by kernel_rfl)
theorem aGy (k:Nat) (x:(List UInt8)×(List Int)×Tr×Int×bI×Int×Int):cV (k+1) x.1 x.2.1 x.2.2.1 x.2.2.2.1 x.2.2.2.2.1 x.2.2.2.2.2.1 x.2.2.2.2.2.2=iW xt qT 42 1 qZ (aA Tryz.f215) (iI xt.T Tryz.f215.results kL) 1 sZ k x:=(cV.eq_def ..).trans (by kernel_rfl)
def aEI:aG (Tr×bI×Int×Int):={}
def aE0:List aW:=[kL]
theorem aLF (k:Nat) (x:bI×Int×Int):eR (k+1) x.1 x.2.1 x.2.2=fx xt aE0 uG Tryz.f211 aEI (aA Tryz.f211) k x:=(eR.eq_def ..).trans (by kernel_rfl)
def aEF:aG (Tr×bI×Int×Int):={}
def aFw:List aW:=[uG,eX,aCH]
theorem aLG (k:Nat) (x:bI×Int×Int):gP (k+1) x.1 x.2.1 x.2.2=fx xt aFw uI Tryz.f201 aEF (aA Tryz.f201) k x:=(gP.eq_def ..).trans (by kernel_rfl)
def vD:LH ((List Tr)×bI×Int×Int):={ Γ:=[(.list false .tree),jD,(.int .i64),(.int .i64)],live:=[(0,(.ref 0 0)),(3,(.row 1 0))],sto:=[(0,(.cells 174 3 [(.var 1),(.var 2),(.var 3)] false)),(1,(.list 25 0 none))],nk:=2,ad:=[.t 3 25 .tree],F:=fun k x=>eC k x.1 x.2.1 x.2.2.1 x.2.2.2 }
def yT:aG ((List Tr)×bI×Int×Int):={ loops:=[(2,vD)] }
def yR:List aW:=[oI,jL,gX,eX]
theorem aJU (k:Nat) (x:bI×Int×Int):iF (k+1) x.1 x.2.1 x.2.2=fx xt yR nZ Tryz.f200 yT (aA Tryz.f200) k x:=(iF.eq_def ..).trans (by kernel_rfl)
theorem aHk (k:Nat) (x:(List Tr)×bI×Int×Int):eC (k+1) x.1 x.2.1 x.2.2.1 x.2.2.2=iW xt yR 35 1 yT (aA Tryz.f200) (iI xt.T Tryz.f200.results nZ) 0 vD k x:=(eC.eq_def ..).trans (by kernel_rfl)
def aD6:aG (Tr×bI×Int×Int):={}
def aEb:List aW:=[eX,jL,oI,tM,gX,xH,nZ,uI]
theorem aJN (k:Nat) (x:bI×Int×Int):bA (k+1) x.1 x.2.1 x.2.2=fx xt aEb gX Tryz.f185 aD6 (aA Tryz.f185) k x:=(bA.eq_def ..).trans (by kernel_rfl)
theorem aJh (K:Nat):aE Tryz.prog lH K∧aE Tryz.prog pJ K∧aE Tryz.prog jC K∧aE Tryz.prog rT K∧aE Tryz.prog kL K∧aE Tryz.prog uG K∧aE Tryz.prog uI K∧aE Tryz.prog nZ K∧aE Tryz.prog gX K:=by
 induction K using Nat.strongRecOn with
 | ind K ih=>exact ⟨bC (X:=xt) (g:=lH) (H:=yQ) (env:=yL) (c:=aA Tryz.f218) aK mixed (fun k hk=>(aB.cons (aB5 k) (aB.cons (qO k) (aB.cons (aG6 k) (aB.cons (ih k hk).1 (aB.cons (jH k) (aB.cons (ih k hk).2.2.2.2.2.2.2.2 (aB.cons (wY k) aB.nil)))))))) Tryz.func218 (by kernel_rfl) (by kernel_rfl) (by kernel_rfl) (aD.all (aD.zero.succ uX (by kernel_rfl) (fun _=>rfl) aHu) (by kernel_rfl) (by kernel_rfl)) (fun _=>rfl) aJ5,bC (X:=xt) (g:=pJ) (H:=aAD) (env:=aAy) (c:=aA Tryz.f217) aK mixed (fun k hk=>(aB.cons (ih k hk).1 (aB.cons (aB5 k) (aB.cons (aG6 k) aB.nil)))) Tryz.func217 (by kernel_rfl) (by kernel_rfl) (by kernel_rfl) (aD.all (aD.zero.succ wZ (by kernel_rfl) (fun _=>rfl) aHW) (by kernel_rfl) (by kernel_rfl)) (fun _=>rfl) aLD,bC (X:=xt) (g:=jC) (H:=oO) (env:=oN) (c:=aA Tryz.f215) aK mixed (fun k hk=>(aB.cons (ih k hk).2.1 (aB.cons (jH k) (aB.cons (aKQ k) aB.nil)))) Tryz.func215 (by kernel_rfl) (by kernel_rfl) (by kernel_rfl) (aD.all ((aD.zero.succ rE (by kernel_rfl) (fun _=>rfl) aFP).succ rJ (by kernel_rfl) (fun _=>rfl) aFl) (by kernel_rfl) (by kernel_rfl)) (fun _=>rfl) aHz,bC (X:=xt) (g:=rT) (H:=aD0) (env:=aD4) (c:=aA Tryz.f216) aK mixed (fun k hk=>(aB.cons (ih k hk).2.2.1 aB.nil)) Tryz.func216 (by kernel_rfl) (by kernel_rfl) (by kernel_rfl) (aD.all aD.zero (by kernel_rfl) (by kernel_rfl)) (fun _=>rfl) aKu,bC (X:=xt) (g:=kL) (H:=qZ) (env:=qT) (c:=aA Tryz.f215) aK mixed (fun k hk=>(aB.cons (ih k hk).2.2.2.1 (aB.cons (jH k) (aB.cons (aKQ k) aB.nil)))) Tryz.func215 (by kernel_rfl) (by kernel_rfl) (by kernel_rfl) (aD.all ((aD.zero.succ tO (by kernel_rfl) (fun _=>rfl) aGW).succ sZ (by kernel_rfl) (fun _=>rfl) aGy) (by kernel_rfl) (by kernel_rfl)) (fun _=>rfl) aJj,bC (X:=xt) (g:=uG) (H:=aEI) (env:=aE0) (c:=aA Tryz.f211) aK mixed (fun k hk=>(aB.cons (ih k hk).2.2.2.2.1 aB.nil)) Tryz.func211 (by kernel_rfl) (by kernel_rfl) (by kernel_rfl) (aD.all aD.zero (by kernel_rfl) (by kernel_rfl)) (fun _=>rfl) aLF,bC (X:=xt) (g:=uI) (H:=aEF) (env:=aFw) (c:=aA Tryz.f201) aK mixed (fun k hk=>(aB.cons (ih k hk).2.2.2.2.2.1 (aB.cons (jH k) (aB.cons (aKQ k) aB.nil)))) Tryz.func201 (by kernel_rfl) (by kernel_rfl) (by kernel_rfl) (aD.all aD.zero (by kernel_rfl) (by kernel_rfl)) (fun _=>rfl) aLG,bC (X:=xt) (g:=nZ) (H:=yT) (env:=yR) (c:=aA Tryz.f200) aK mixed (fun k hk=>(aB.cons (aDr k) (aB.cons (wY k) (aB.cons (ih k hk).2.2.2.2.2.2.2.2 (aB.cons (jH k) aB.nil))))) Tryz.func200 (by kernel_rfl) (by kernel_rfl) (by kernel_rfl) (aD.all (aD.zero.succ vD (by kernel_rfl) (fun _=>rfl) aHk) (by kernel_rfl) (by kernel_rfl)) (fun _=>rfl) aJU,bC (X:=xt) (g:=gX) (H:=aD6) (env:=aEb) (c:=aA Tryz.f185) aK mixed (fun k hk=>(aB.cons (jH k) (aB.cons (wY k) (aB.cons (aDr k) (aB.cons (aLl k) (aB.cons (ih k hk).2.2.2.2.2.2.2.2 (aB.cons (aG6 k) (aB.cons (ih k hk).2.2.2.2.2.2.2.1 (aB.cons (ih k hk).2.2.2.2.2.2.1 aB.nil))))))))) Tryz.func185 (by kernel_rfl) (by kernel_rfl) (by kernel_rfl) (aD.all aD.zero (by kernel_rfl) (by kernel_rfl)) (fun _=>rfl) aJN⟩
theorem aJJ (K:Nat):aE Tryz.prog gX K:=(aJh K).2.2.2.2.2.2.2.2
def aEj:aW:={ fid:=170,Γ:=[jD,(.int .i64)],args:=[(.var 0),(.var 1)],Δ:=[.tree,(.int .i64),(.int .i64)],res:=(.tup [(.var 0),(.var 1),(.var 2)]),f:=fun k x=>aES k x.1 x.2 }
def aNx:aG (Tr×Int×Int):={ ord:=[(6,[.l 0,.l 1,.l 2,.l 3,.l 4,.l 5,.l 6,.l 7,.l 8,.l 9,.l 10]),(7,[.l 0,.l 1,.l 2,.l 3,.l 4,.m 5,.l 6,.l 7])] }
def aNB:List aW:=[gX]
theorem aUd (k:Nat) (x:bI×Int):aES k x.1 x.2=fx xt aNB aEj Tryz.f170 aNx (aA Tryz.f170) k x:=by kernel_rfl
theorem aUm (K:Nat):aE Tryz.prog aEj K:=aJ (X:=xt) (g:=aEj) (H:=aNx) (env:=aNB) (c:=aA Tryz.f170) aK mixed (fun k=>(aB.cons (aJJ k) aB.nil)) Tryz.func170 (by kernel_rfl) (by kernel_rfl) (by kernel_rfl) (aD.all aD.zero (by kernel_rfl) (by kernel_rfl)) aUd K
def nI:aW:={ fid:=128,Γ:=[jD,(.int .i64),(.int .i64)],args:=[(.ref 0 0),(.fn 170 [] [])],sto:=[(0,(.cells 104 3 [(.var 0),(.var 1),(.var 2)] false))],nk:=1,Δ:=[.tree,jD,(.int .i64),(.int .i64)],res:=(.var 0),sto':=[(0,(.cells 104 3 [(.var 1),(.var 2),(.var 3)] false))],nk':=1,f:=fun k x=>hY k x.1 x.2.1 x.2.2 }
def aA2:aG (Tr×bI×Int×Int):={ ord:=[(3,[.l 0,.l 1,.l 2,.l 3,.l 4,.l 5,.l 6,.l 7,.l 8,.h 9,.l 10,.l 11,.l 12,.l 13,.l 14,.l 15,.l 16])] }
def aA4:List aW:=[aEj,fV]
theorem aG5 (k:Nat) (x:bI×Int×Int):hY k x.1 x.2.1 x.2.2=fx xt aA4 nI Tryz.f128 aA2 (aA Tryz.f128) k x:=by kernel_rfl
theorem aG9 (K:Nat):aE Tryz.prog nI K:=aJ (X:=xt) (g:=nI) (H:=aA2) (env:=aA4) (c:=aA Tryz.f128) aK mixed (fun k=>(aB.cons (aUm k) (aB.cons (lF k) aB.nil))) Tryz.func128 (by kernel_rfl) (by kernel_rfl) (by kernel_rfl) (aD.all aD.zero (by kernel_rfl) (by kernel_rfl)) aG5 K
def tL:aW:={ fid:=145,Γ:=[jD,(.int .i64),(.int .i64)],args:=[(.ref 0 0)],sto:=[(0,(.cells 104 3 [(.var 0),(.var 1),(.var 2)] false))],nk:=1,Δ:=[.tree,jD,(.int .i64),(.int .i64)],res:=(.var 0),sto':=[(0,(.cells 104 3 [(.var 1),(.var 2),(.var 3)] false))],nk':=1,f:=fun k x=>mA k x.1 x.2.1 x.2.2 }
def aE5:aG (Tr×bI×Int×Int):={}
def aFa:List aW:=[nI]
theorem aLd (k:Nat) (x:bI×Int×Int):mA k x.1 x.2.1 x.2.2=fx xt aFa tL Tryz.f145 aE5 (aA Tryz.f145) k x:=by kernel_rfl
theorem aLm (K:Nat):aE Tryz.prog tL K:=aJ (X:=xt) (g:=tL) (H:=aE5) (env:=aFa) (c:=aA Tryz.f145) aK mixed (fun k=>(aB.cons (aG9 k) aB.nil)) Tryz.func145 (by kernel_rfl) (by kernel_rfl) (by kernel_rfl) (aD.all aD.zero (by kernel_rfl) (by kernel_rfl)) aLd K
def lT:aW:={ fid:=144,Γ:=[jD,(.int .i64),(.int .i64),.str],args:=[(.ref 0 0),(.var 3),(.fn 145 [(.ref 0 0)] [])],sto:=[(0,(.cells 104 3 [(.var 0),(.var 1),(.var 2)] false))],nk:=1,Δ:=[.tree,jD,(.int .i64),(.int .i64)],res:=(.var 0),sto':=[(0,(.cells 104 3 [(.var 1),(.var 2),(.var 3)] false))],nk':=1,f:=fun k x=>fG k x.1 x.2.1 x.2.2.1 x.2.2.2 }
def yJ:aG (Tr×bI×Int×Int):={}
def yD:List aW:=[dC,tL]
theorem aEP (k:Nat) (x:bI×Int×Int×(List UInt8)):fG k x.1 x.2.1 x.2.2.1 x.2.2.2=fx xt yD lT Tryz.f144 yJ (aA Tryz.f144) k x:=by kernel_rfl
theorem aFg (K:Nat):aE Tryz.prog lT K:=aJ (X:=xt) (g:=lT) (H:=yJ) (env:=yD) (c:=aA Tryz.f144) aK mixed (fun k=>(aB.cons (fA k) (aB.cons (aLm k) aB.nil))) Tryz.func144 (by kernel_rfl) (by kernel_rfl) (by kernel_rfl) (aD.all aD.zero (by kernel_rfl) (by kernel_rfl)) aEP K
def jZ:aW:={ fid:=144,Γ:=[jD,(.int .i64),(.int .i64),.str],args:=[(.ref 0 0),(.var 3),(.fn 90 [(.ref 0 0)] [])],sto:=[(0,(.cells 104 3 [(.var 0),(.var 1),(.var 2)] false))],nk:=1,Δ:=[.tree,jD,(.int .i64),(.int .i64)],res:=(.var 0),sto':=[(0,(.cells 104 3 [(.var 1),(.var 2),(.var 3)] false))],nk':=1,f:=fun k x=>eU k x.1 x.2.1 x.2.2.1 x.2.2.2 }
def zE:aG (Tr×bI×Int×Int):={}
def zH:List aW:=[dC,kU]
theorem aF6 (k:Nat) (x:bI×Int×Int×(List UInt8)):eU k x.1 x.2.1 x.2.2.1 x.2.2.2=fx xt zH jZ Tryz.f144 zE (aA Tryz.f144) k x:=by kernel_rfl
theorem yG (K:Nat):aE Tryz.prog jZ K:=aJ (X:=xt) (g:=jZ) (H:=zE) (env:=zH) (c:=aA Tryz.f144) aK mixed (fun k=>(aB.cons (fA k) (aB.cons (tJ k) aB.nil))) Tryz.func144 (by kernel_rfl) (by kernel_rfl) (by kernel_rfl) (aD.all aD.zero (by kernel_rfl) (by kernel_rfl)) aF6 K
def sQ:aW:={ fid:=42,Γ:=[(.int .i64),.str,(.list false .tree)],args:=[(.var 0),(.var 1),(.var 2)],Δ:=[.tree],res:=(.var 0),f:=fun k x=>gR k x.1 x.2.1 x.2.2 }
def aQm:aG (Tr):={}
def aQd:List aW:=[]
theorem aV0 (k:Nat) (x:Int×(List UInt8)×(List Tr)):gR k x.1 x.2.1 x.2.2=fx xt aQd sQ Tryz.f42 aQm (aA Tryz.f42) k x:=by kernel_rfl
theorem aB4 (K:Nat):aE Tryz.prog sQ K:=aJ (X:=xt) (g:=sQ) (H:=aQm) (env:=aQd) (c:=aA Tryz.f42) aK mixed (fun k=>aB.nil) Tryz.func42 (by kernel_rfl) (by kernel_rfl) (by kernel_rfl) (aD.all aD.zero (by kernel_rfl) (by kernel_rfl)) aV0 K
def aEk:aW:={ fid:=171,Γ:=[jD,(.int .i64)],args:=[(.var 0),(.var 1)],Δ:=[(.list false .tree),(.int .i64),(.int .i64)],res:=(.tup [(.var 0),(.var 1),(.var 2)]),f:=fun k x=>aEW k x.1 x.2 }
def aNQ:aG ((List Tr)×Int×Int):={ ord:=[(4,[.l 0,.l 1,.l 2,.l 3,.l 4,.l 5,.l 6,.l 7,.l 8,.l 9,.l 10]),(5,[.l 0,.l 1,.l 2,.l 3,.l 4,.m 5,.l 6,.l 7])] }
def aNM:List aW:=[zP,gZ]
theorem aTX (k:Nat) (x:bI×Int):aEW k x.1 x.2=fx xt aNM aEk Tryz.f171 aNQ (aA Tryz.f171) k x:=by kernel_rfl
theorem aUc (K:Nat):aE Tryz.prog aEk K:=aJ (X:=xt) (g:=aEk) (H:=aNQ) (env:=aNM) (c:=aA Tryz.f171) aK mixed (fun k=>(aB.cons (aJQ k) (aB.cons (aKI k) aB.nil))) Tryz.func171 (by kernel_rfl) (by kernel_rfl) (by kernel_rfl) (aD.all aD.zero (by kernel_rfl) (by kernel_rfl)) aTX K
def pU:aW:={ fid:=146,Γ:=[jD,(.int .i64),(.int .i64)],args:=[(.ref 0 0)],sto:=[(0,(.cells 104 3 [(.var 0),(.var 1),(.var 2)] false))],nk:=1,Δ:=[(.list false .tree),jD,(.int .i64),(.int .i64)],res:=(.var 0),sto':=[(0,(.cells 104 3 [(.var 1),(.var 2),(.var 3)] false))],nk':=1,f:=fun k x=>kN k x.1 x.2.1 x.2.2 }
def aFu:aG ((List Tr)×bI×Int×Int):={ ord:=[(3,[.l 0,.l 1,.l 2,.l 3,.l 4,.l 5,.l 6,.l 7,.h 8,.l 9,.l 10,.l 11,.l 12,.l 13,.l 14,.l 15])] }
def aFy:List aW:=[aEk,fV]
theorem aLi (k:Nat) (x:bI×Int×Int):kN k x.1 x.2.1 x.2.2=fx xt aFy pU Tryz.f146 aFu (aA Tryz.f146) k x:=by kernel_rfl
theorem aD8 (K:Nat):aE Tryz.prog pU K:=aJ (X:=xt) (g:=pU) (H:=aFu) (env:=aFy) (c:=aA Tryz.f146) aK mixed (fun k=>(aB.cons (aUc k) (aB.cons (lF k) aB.nil))) Tryz.func146 (by kernel_rfl) (by kernel_rfl) (by kernel_rfl) (aD.all aD.zero (by kernel_rfl) (by kernel_rfl)) aLi K
def nM:aW:={ fid:=126,Γ:=[jD,(.int .i64),(.int .i64)],args:=[(.ref 0 0),(.fn 127 [] [])],sto:=[(0,(.cells 104 3 [(.var 0),(.var 1),(.var 2)] false))],nk:=1,Δ:=[.str,jD,(.int .i64),(.int .i64)],res:=(.var 0),sto':=[(0,(.cells 104 3 [(.var 1),(.var 2),(.var 3)] false))],nk':=1,f:=fun k x=>iD k x.1 x.2.1 x.2.2 }
def aAY:aG ((List UInt8)×bI×Int×Int):={ ord:=[(1,[.l 0,.l 1,.l 2,.l 3,.l 4,.l 5,.l 6,.l 7,.l 8,.h 9,.l 10,.l 11,.l 12,.l 13,.l 14])] }
def aAP:List aW:=[xK,fV]
theorem aGG (k:Nat) (x:bI×Int×Int):iD k x.1 x.2.1 x.2.2=fx xt aAP nM Tryz.f126 aAY (aA Tryz.f126) k x:=by kernel_rfl
theorem aG4 (K:Nat):aE Tryz.prog nM K:=aJ (X:=xt) (g:=nM) (H:=aAY) (env:=aAP) (c:=aA Tryz.f126) aK mixed (fun k=>(aB.cons (aGF k) (aB.cons (lF k) aB.nil))) Tryz.func126 (by kernel_rfl) (by kernel_rfl) (by kernel_rfl) (aD.all aD.zero (by kernel_rfl) (by kernel_rfl)) aGG K
def kE:aW:={ fid:=89,Γ:=[jD,(.int .i64),(.int .i64)],args:=[(.ref 0 0)],sto:=[(0,(.cells 104 3 [(.var 0),(.var 1),(.var 2)] false))],nk:=1,Δ:=[.str,jD,(.int .i64),(.int .i64)],res:=(.var 0),sto':=[(0,(.cells 104 3 [(.var 1),(.var 2),(.var 3)] false))],nk':=1,f:=fun k x=>dB k x.1 x.2.1 x.2.2 }
def aFs:aG ((List UInt8)×bI×Int×Int):={}
def aE4:List aW:=[nM]
theorem aLh (k:Nat) (x:bI×Int×Int):dB k x.1 x.2.1 x.2.2=fx xt aE4 kE Tryz.f89 aFs (aA Tryz.f89) k x:=by kernel_rfl
theorem rR (K:Nat):aE Tryz.prog kE K:=aJ (X:=xt) (g:=kE) (H:=aFs) (env:=aE4) (c:=aA Tryz.f89) aK mixed (fun k=>(aB.cons (aG4 k) aB.nil)) Tryz.func89 (by kernel_rfl) (by kernel_rfl) (by kernel_rfl) (aD.all aD.zero (by kernel_rfl) (by kernel_rfl)) aLh K
def gU:aW:={ fid:=144,Γ:=[jD,(.int .i64),(.int .i64),.str],args:=[(.ref 0 0),(.var 3),(.fn 57 [(.ref 0 0)] [])],sto:=[(0,(.cells 104 3 [(.var 0),(.var 1),(.var 2)] false))],nk:=1,Δ:=[.tree,jD,(.int .i64),(.int .i64)],res:=(.var 0),sto':=[(0,(.cells 104 3 [(.var 1),(.var 2),(.var 3)] false))],nk':=1,f:=fun k x=>dL k x.1 x.2.1 x.2.2.1 x.2.2.2 }
def sX:aW:={ fid:=124,Γ:=[jD,(.int .i64),(.int .i64)],args:=[(.ref 0 0)],sto:=[(0,(.cells 104 3 [(.var 0),(.var 1),(.var 2)] false))],nk:=1,Δ:=[.tree,jD,(.int .i64),(.int .i64)],res:=(.var 0),sto':=[(0,(.cells 104 3 [(.var 1),(.var 2),(.var 3)] false))],nk':=1,f:=fun k x=>eS k x.1 x.2.1 x.2.2 }
def pX:aW:={ fid:=87,Γ:=[jD,(.int .i64),(.int .i64)],args:=[(.ref 0 0)],sto:=[(0,(.cells 104 3 [(.var 0),(.var 1),(.var 2)] false))],nk:=1,Δ:=[.tree,jD,(.int .i64),(.int .i64)],res:=(.var 0),sto':=[(0,(.cells 104 3 [(.var 1),(.var 2),(.var 3)] false))],nk':=1,f:=fun k x=>gK k x.1 x.2.1 x.2.2 }
def jO:aW:={ fid:=57,Γ:=[jD,(.int .i64),(.int .i64)],args:=[(.ref 0 0)],sto:=[(0,(.cells 104 3 [(.var 0),(.var 1),(.var 2)] false))],nk:=1,Δ:=[.tree,jD,(.int .i64),(.int .i64)],res:=(.var 0),sto':=[(0,(.cells 104 3 [(.var 1),(.var 2),(.var 3)] false))],nk':=1,f:=fun k x=>dJ k x.1 x.2.1 x.2.2 }
def zN:aG (Tr×bI×Int×Int):={}
def zU:List aW:=[dC,jO]
theorem aF8 (k:Nat) (x:bI×Int×Int×(List UInt8)):dL (k+1) x.1 x.2.1 x.2.2.1 x.2.2.2=fx xt zU gU Tryz.f144 zN (aA Tryz.f144) k x:=(dL.eq_def ..).trans (by kernel_rfl)
def aFB:aG (Tr×bI×Int×Int):={}
def aFi:List aW:=[fJ,mJ,jZ,sQ,kU,dC,pU,gU,jO,kE]
theorem aLt (k:Nat) (x:bI×Int×Int):eS (k+1) x.1 x.2.1 x.2.2=fx xt aFi sX Tryz.f124 aFB (aA Tryz.f124) k x:=(eS.eq_def ..).trans (by kernel_rfl)
def vO:LH (Tr×bI×Int×Int):={ Γ:=[.tree,jD,(.int .i64),(.int .i64),(.int .i64),(.int .i64),.str,.str,(.list false .tree)],live:=[(0,(.ref 0 0)),(3,(.ref 1 0)),(4,(.var 0))],sto:=[(0,(.cells 104 3 [(.var 1),(.var 2),(.var 3)] false)),(1,(.cells 60 5 [(.var 4),(.var 5),(.var 6),(.var 7),(.row 2 8)] false)),(2,(.list 25 8 none))],nk:=3,ad:=[.c 3 4 25 .tree],F:=fun k x=>bY k x.1 x.2.1 x.2.2.1 x.2.2.2.1 x.2.2.2.2.1 x.2.2.2.2.2.1 x.2.2.2.2.2.2.1 x.2.2.2.2.2.2.2.1 x.2.2.2.2.2.2.2.2 }
def aAC:aG (Tr×bI×Int×Int):={ loops:=[(5,vO)] }
def aAs:List aW:=[fJ,mJ,zX,sX,dC]
theorem aLE (k:Nat) (x:bI×Int×Int):gK (k+1) x.1 x.2.1 x.2.2=fx xt aAs pX Tryz.f87 aAC (aA Tryz.f87) k x:=(gK.eq_def ..).trans (by kernel_rfl)
theorem aIx (k:Nat) (x:Tr×bI×Int×Int×Int×Int×(List UInt8)×(List UInt8)×(List Tr)):bY (k+1) x.1 x.2.1 x.2.2.1 x.2.2.2.1 x.2.2.2.2.1 x.2.2.2.2.2.1 x.2.2.2.2.2.2.1 x.2.2.2.2.2.2.2.1 x.2.2.2.2.2.2.2.2=iW xt aAs 32 1 aAC (aA Tryz.f87) (iI xt.T Tryz.f87.results pX) 0 vO k x:=(bY.eq_def ..).trans (by kernel_rfl)
def yW:LH (Tr×bI×Int×Int):={ Γ:=[.tree,jD,(.int .i64),(.int .i64)],live:=[(0,(.ref 0 0)),(3,(.var 0))],sto:=[(0,(.cells 104 3 [(.var 1),(.var 2),(.var 3)] false))],nk:=1,F:=fun k x=>dY k x.1 x.2.1 x.2.2.1 x.2.2.2 }
def aBu:aG (Tr×bI×Int×Int):={ loops:=[(2,yW)] }
def aBM:List aW:=[pX,fJ,dC,kE,kU,sQ]
theorem aM2 (k:Nat) (x:bI×Int×Int):dJ (k+1) x.1 x.2.1 x.2.2=fx xt aBM jO Tryz.f57 aBu (aA Tryz.f57) k x:=(dJ.eq_def ..).trans (by kernel_rfl)
theorem aJm (k:Nat) (x:Tr×bI×Int×Int):dY (k+1) x.1 x.2.1 x.2.2.1 x.2.2.2=iW xt aBM 24 1 aBu (aA Tryz.f57) (iI xt.T Tryz.f57.results jO) 0 yW k x:=(dY.eq_def ..).trans (by kernel_rfl)
theorem vV (K:Nat):aE Tryz.prog gU K∧aE Tryz.prog sX K∧aE Tryz.prog pX K∧aE Tryz.prog jO K:=by
 induction K using Nat.strongRecOn with
 | ind K ih=>exact ⟨bC (X:=xt) (g:=gU) (H:=zN) (env:=zU) (c:=aA Tryz.f144) aK mixed (fun k hk=>(aB.cons (fA k) (aB.cons (ih k hk).2.2.2 aB.nil))) Tryz.func144 (by kernel_rfl) (by kernel_rfl) (by kernel_rfl) (aD.all aD.zero (by kernel_rfl) (by kernel_rfl)) (fun _=>rfl) aF8,bC (X:=xt) (g:=sX) (H:=aFB) (env:=aFi) (c:=aA Tryz.f124) aK mixed (fun k hk=>(aB.cons (kF k) (aB.cons (yO k) (aB.cons (yG k) (aB.cons (aB4 k) (aB.cons (tJ k) (aB.cons (fA k) (aB.cons (aD8 k) (aB.cons (ih k hk).1 (aB.cons (ih k hk).2.2.2 (aB.cons (rR k) aB.nil))))))))))) Tryz.func124 (by kernel_rfl) (by kernel_rfl) (by kernel_rfl) (aD.all aD.zero (by kernel_rfl) (by kernel_rfl)) (fun _=>rfl) aLt,bC (X:=xt) (g:=pX) (H:=aAC) (env:=aAs) (c:=aA Tryz.f87) aK mixed (fun k hk=>(aB.cons (kF k) (aB.cons (yO k) (aB.cons (aJ8 k) (aB.cons (ih k hk).2.1 (aB.cons (fA k) aB.nil)))))) Tryz.func87 (by kernel_rfl) (by kernel_rfl) (by kernel_rfl) (aD.all (aD.zero.succ vO (by kernel_rfl) (fun _=>rfl) aIx) (by kernel_rfl) (by kernel_rfl)) (fun _=>rfl) aLE,bC (X:=xt) (g:=jO) (H:=aBu) (env:=aBM) (c:=aA Tryz.f57) aK mixed (fun k hk=>(aB.cons (ih k hk).2.2.1 (aB.cons (kF k) (aB.cons (fA k) (aB.cons (rR k) (aB.cons (tJ k) (aB.cons (aB4 k) aB.nil))))))) Tryz.func57 (by kernel_rfl) (by kernel_rfl) (by kernel_rfl) (aD.all (aD.zero.succ yW (by kernel_rfl) (fun _=>rfl) aJm) (by kernel_rfl) (by kernel_rfl)) (fun _=>rfl) aM2⟩
theorem aF7 (K:Nat):aE Tryz.prog gU K:=(vV K).1
theorem aM6 (K:Nat):aE Tryz.prog jO K:=(vV K).2.2.2
def pY:aW:={ fid:=85,Γ:=[jD,(.int .i64),(.int .i64)],args:=[(.ref 0 0)],sto:=[(0,(.cells 104 3 [(.var 0),(.var 1),(.var 2)] false))],nk:=1,Δ:=[.tree,jD,(.int .i64),(.int .i64)],res:=(.var 0),sto':=[(0,(.cells 104 3 [(.var 1),(.var 2),(.var 3)] false))],nk':=1,f:=fun k x=>gQ k x.1 x.2.1 x.2.2 }
def nN:aW:={ fid:=56,Γ:=[jD,(.int .i64),(.int .i64)],args:=[(.ref 0 0)],sto:=[(0,(.cells 104 3 [(.var 0),(.var 1),(.var 2)] false))],nk:=1,Δ:=[.tree,jD,(.int .i64),(.int .i64)],res:=(.var 0),sto':=[(0,(.cells 104 3 [(.var 1),(.var 2),(.var 3)] false))],nk':=1,f:=fun k x=>eG k x.1 x.2.1 x.2.2 }
def mS:aW:={ fid:=144,Γ:=[jD,(.int .i64),(.int .i64),.str],args:=[(.ref 0 0),(.var 3),(.fn 56 [(.ref 0 0)] [])],sto:=[(0,(.cells 104 3 [(.var 0),(.var 1),(.var 2)] false))],nk:=1,Δ:=[.tree,jD,(.int .i64),(.int .i64)],res:=(.var 0),sto':=[(0,(.cells 104 3 [(.var 1),(.var 2),(.var 3)] false))],nk':=1,f:=fun k x=>eB k x.1 x.2.1 x.2.2.1 x.2.2.2 }
def mB:aW:={ fid:=115,Γ:=[jD,(.int .i64),(.int .i64),.bool],args:=[(.ref 0 0),(.var 3)],sto:=[(0,(.cells 104 3 [(.var 0),(.var 1),(.var 2)] false))],nk:=1,Δ:=[.tree,jD,(.int .i64),(.int .i64)],res:=(.var 0),sto':=[(0,(.cells 104 3 [(.var 1),(.var 2),(.var 3)] false))],nk':=1,f:=fun k x=>eF k x.1 x.2.1 x.2.2.1 x.2.2.2 }
def jI:aW:={ fid:=77,Γ:=[jD,(.int .i64),(.int .i64),.bool],args:=[(.ref 0 0),(.var 3)],sto:=[(0,(.cells 104 3 [(.var 0),(.var 1),(.var 2)] false))],nk:=1,Δ:=[(.list false .tree),jD,(.int .i64),(.int .i64)],res:=(.var 0),sto':=[(0,(.cells 104 3 [(.var 1),(.var 2),(.var 3)] false))],nk':=1,f:=fun k x=>lB k x.1 x.2.1 x.2.2.1 x.2.2.2 }
def wM:LH (Tr×bI×Int×Int):={ Γ:=[.str,jD,(.int .i64),(.int .i64)],live:=[(0,(.ref 0 0)),(5,(.var 0))],sto:=[(0,(.cells 104 3 [(.var 1),(.var 2),(.var 3)] false))],nk:=1,F:=fun k x=>nY k x.1 x.2.1 x.2.2.1 x.2.2.2 }
def aAn:aG (Tr×bI×Int×Int):={ ord:=[(9,[.l 0,.l 1,.l 2,.l 3,.l 4,.l 5,.l 6,.l 7,.h 8,.l 9,.l 10,.l 11,.l 12,.l 13]),(10,[.l 0,.l 1,.l 2,.l 3,.l 4,.l 5,.l 6,.l 7,.l 8,.l 9,.l 10,.h 11,.l 12,.l 13,.l 14,.l 15,.l 16,.l 17,.l 18,.l 19])],cuts:=[(12,wM)] }
def aAx:List aW:=[fJ,jI,dC,sQ,nN,tA,sP,kE]
theorem aLg (k:Nat) (x:bI×Int×Int):gQ (k+1) x.1 x.2.1 x.2.2=fx xt aAx pY Tryz.f85 aAn (aA Tryz.f85) k x:=(gQ.eq_def ..).trans (by kernel_rfl)
theorem aIF (k:Nat) (x:(List UInt8)×bI×Int×Int):nY (k+1) x.1 x.2.1 x.2.2.1 x.2.2.2=iW xt aAx 78 1 aAn (aA Tryz.f85) (iI xt.T Tryz.f85.results pY) 0 wM k x:=(nY.eq_def ..).trans (by kernel_rfl)
def zA:LH (Tr×bI×Int×Int):={ Γ:=[.tree,jD,(.int .i64),(.int .i64)],live:=[(0,(.ref 0 0)),(3,(.var 0))],sto:=[(0,(.cells 104 3 [(.var 1),(.var 2),(.var 3)] false))],nk:=1,F:=fun k x=>dD k x.1 x.2.1 x.2.2.1 x.2.2.2 }
def aBg:aG (Tr×bI×Int×Int):={ loops:=[(2,zA)] }
def aBj:List aW:=[pY,fJ,jO]
theorem aNp (k:Nat) (x:bI×Int×Int):eG (k+1) x.1 x.2.1 x.2.2=fx xt aBj nN Tryz.f56 aBg (aA Tryz.f56) k x:=(eG.eq_def ..).trans (by kernel_rfl)
theorem aJn (k:Nat) (x:Tr×bI×Int×Int):dD (k+1) x.1 x.2.1 x.2.2.1 x.2.2.2=iW xt aBj 21 1 aBg (aA Tryz.f56) (iI xt.T Tryz.f56.results nN) 0 zA k x:=(dD.eq_def ..).trans (by kernel_rfl)
def zJ:aG (Tr×bI×Int×Int):={}
def zO:List aW:=[dC,nN]
theorem aGa (k:Nat) (x:bI×Int×Int×(List UInt8)):eB (k+1) x.1 x.2.1 x.2.2.1 x.2.2.2=fx xt zO mS Tryz.f144 zJ (aA Tryz.f144) k x:=(eB.eq_def ..).trans (by kernel_rfl)
def wJ:LH (Tr×bI×Int×Int):={ Γ:=[jD,(.int .i64),(.int .i64),(.int .i64),(.int .i64),.str,.str,(.list false .tree)],live:=[(0,(.ref 0 0)),(5,(.ref 1 0))],sto:=[(0,(.cells 104 3 [(.var 0),(.var 1),(.var 2)] false)),(1,(.cells 60 5 [(.var 3),(.var 4),(.var 5),(.var 6),(.row 2 7)] false)),(2,(.list 25 7 none))],nk:=3,ad:=[.c 5 4 25 .tree],F:=fun k x=>cJ k x.1 x.2.1 x.2.2.1 x.2.2.2.1 x.2.2.2.2.1 x.2.2.2.2.2.1 x.2.2.2.2.2.2.1 x.2.2.2.2.2.2.2 }
def vW:LH (Tr×bI×Int×Int):={ Γ:=[jD,(.int .i64),(.int .i64),(.int .i64),(.int .i64),.str,.str],live:=[(0,(.ref 0 0)),(10,(.ref 1 0))],sto:=[(0,(.cells 104 3 [(.var 0),(.var 1),(.var 2)] false)),(1,(.cells 60 5 [(.var 3),(.var 4),(.var 5),(.var 6),.nils] false))],nk:=2,F:=fun k x=>gV k x.1 x.2.1 x.2.2.1 x.2.2.2.1 x.2.2.2.2.1 x.2.2.2.2.2.1 x.2.2.2.2.2.2 }
def uD:aG (Tr×bI×Int×Int):={ ord:=[(4,[.l 0,.l 1,.l 2,.l 3,.l 4,.l 5,.h 6,.l 7,.h 8,.l 9,.l 10,.h 11]),(5,[.l 0,.l 1,.l 2,.l 3,.l 4,.l 5,.l 6,.l 7,.h 8,.l 9,.h 10,.l 11,.l 12,.h 13])],cuts:=[(5,wJ),(26,vW)] }
def uB:List aW:=[fJ,mJ,zX,kU,lT,jZ,sQ,dC,pU,mS,kE,gU]
theorem aLu (k:Nat) (x:bI×Int×Int×Bool):eF (k+1) x.1 x.2.1 x.2.2.1 x.2.2.2=fx xt uB mB Tryz.f115 uD (aA Tryz.f115) k x:=(eF.eq_def ..).trans (by kernel_rfl)
theorem aIt (k:Nat) (x:bI×Int×Int×Int×Int×(List UInt8)×(List UInt8)×(List Tr)):cJ (k+1) x.1 x.2.1 x.2.2.1 x.2.2.2.1 x.2.2.2.2.1 x.2.2.2.2.2.1 x.2.2.2.2.2.2.1 x.2.2.2.2.2.2.2=iW xt uB 142 1 uD (aA Tryz.f115) (iI xt.T Tryz.f115.results mB) 0 wJ k x:=(cJ.eq_def ..).trans (by kernel_rfl)
theorem aIa (k:Nat) (x:bI×Int×Int×Int×Int×(List UInt8)×(List UInt8)):gV (k+1) x.1 x.2.1 x.2.2.1 x.2.2.2.1 x.2.2.2.2.1 x.2.2.2.2.2.1 x.2.2.2.2.2.2=iW xt uB 142 1 uD (aA Tryz.f115) (iI xt.T Tryz.f115.results mB) 1 vW k x:=(gV.eq_def ..).trans (by kernel_rfl)
def vB:LH ((List Tr)×bI×Int×Int):={ Γ:=[.bool,(.list false .tree),.tree,jD,(.int .i64),(.int .i64)],live:=[(0,(.ref 0 0)),(1,(.var 0)),(5,(.row 1 1)),(6,(.var 2))],sto:=[(0,(.cells 104 3 [(.var 3),(.var 4),(.var 5)] false)),(1,(.list 25 1 none))],nk:=2,ad:=[.t 5 25 .tree],F:=fun k x=>bM k x.1 x.2.1 x.2.2.1 x.2.2.2.1 x.2.2.2.2.1 x.2.2.2.2.2 }
def yN:aG ((List Tr)×bI×Int×Int):={ loops:=[(3,vB)] }
def yK:List aW:=[mB]
theorem aJY (k:Nat) (x:bI×Int×Int×Bool):lB (k+1) x.1 x.2.1 x.2.2.1 x.2.2.2=fx xt yK jI Tryz.f77 yN (aA Tryz.f77) k x:=(lB.eq_def ..).trans (by kernel_rfl)
theorem aHI (k:Nat) (x:Bool×(List Tr)×Tr×bI×Int×Int):bM (k+1) x.1 x.2.1 x.2.2.1 x.2.2.2.1 x.2.2.2.2.1 x.2.2.2.2.2=iW xt yK 20 1 yN (aA Tryz.f77) (iI xt.T Tryz.f77.results jI) 0 vB k x:=(bM.eq_def ..).trans (by kernel_rfl)
theorem aJZ (K:Nat):aE Tryz.prog pY K∧aE Tryz.prog nN K∧aE Tryz.prog mS K∧aE Tryz.prog mB K∧aE Tryz.prog jI K:=by
 induction K using Nat.strongRecOn with
 | ind K ih=>exact ⟨bC (X:=xt) (g:=pY) (H:=aAn) (env:=aAx) (c:=aA Tryz.f85) aK mixed (fun k hk=>(aB.cons (kF k) (aB.cons (ih k hk).2.2.2.2 (aB.cons (fA k) (aB.cons (aB4 k) (aB.cons (ih k hk).2.1 (aB.cons (aCT k) (aB.cons (aB9 k) (aB.cons (rR k) aB.nil))))))))) Tryz.func85 (by kernel_rfl) (by kernel_rfl) (by kernel_rfl) (aD.all (aD.zero.succ wM (by kernel_rfl) (fun _=>rfl) aIF) (by kernel_rfl) (by kernel_rfl)) (fun _=>rfl) aLg,bC (X:=xt) (g:=nN) (H:=aBg) (env:=aBj) (c:=aA Tryz.f56) aK mixed (fun k hk=>(aB.cons (ih k hk).1 (aB.cons (kF k) (aB.cons (aM6 k) aB.nil)))) Tryz.func56 (by kernel_rfl) (by kernel_rfl) (by kernel_rfl) (aD.all (aD.zero.succ zA (by kernel_rfl) (fun _=>rfl) aJn) (by kernel_rfl) (by kernel_rfl)) (fun _=>rfl) aNp,bC (X:=xt) (g:=mS) (H:=zJ) (env:=zO) (c:=aA Tryz.f144) aK mixed (fun k hk=>(aB.cons (fA k) (aB.cons (ih k hk).2.1 aB.nil))) Tryz.func144 (by kernel_rfl) (by kernel_rfl) (by kernel_rfl) (aD.all aD.zero (by kernel_rfl) (by kernel_rfl)) (fun _=>rfl) aGa,bC (X:=xt) (g:=mB) (H:=uD) (env:=uB) (c:=aA Tryz.f115) aK mixed (fun k hk=>(aB.cons (kF k) (aB.cons (yO k) (aB.cons (aJ8 k) (aB.cons (tJ k) (aB.cons (aFg k) (aB.cons (yG k) (aB.cons (aB4 k) (aB.cons (fA k) (aB.cons (aD8 k) (aB.cons (ih k hk).2.2.1 (aB.cons (rR k) (aB.cons (aF7 k) aB.nil))))))))))))) Tryz.func115 (by kernel_rfl) (by kernel_rfl) (by kernel_rfl) (aD.all ((aD.zero.succ wJ (by kernel_rfl) (fun _=>rfl) aIt).succ vW (by kernel_rfl) (fun _=>rfl) aIa) (by kernel_rfl) (by kernel_rfl)) (fun _=>rfl) aLu,bC (X:=xt) (g:=jI) (H:=yN) (env:=yK) (c:=aA Tryz.f77) aK mixed (fun k hk=>(aB.cons (ih k hk).2.2.2.1 aB.nil)) Tryz.func77 (by kernel_rfl) (by kernel_rfl) (by kernel_rfl) (aD.all (aD.zero.succ vB (by kernel_rfl) (fun _=>rfl) aHI) (by kernel_rfl) (by kernel_rfl)) (fun _=>rfl) aJY⟩
theorem aJI (K:Nat):aE Tryz.prog jI K:=(aJZ K).2.2.2.2
def aEe:aW:={ fid:=41,Γ:=[jD,(.int .i64),.bool],args:=[(.var 0),(.var 1),(.var 2)],Δ:=[(.list false .tree),(.int .i64),(.int .i64)],res:=(.tup [(.var 0),(.var 1),(.var 2)]),f:=fun k x=>aE2 k x.1 x.2.1 x.2.2 }
def aNV:aG ((List Tr)×Int×Int):={ ord:=[(4,[.l 0,.l 1,.l 2,.l 3,.l 4,.l 5,.l 6,.l 7,.l 8,.l 9,.l 10]),(5,[.l 0,.l 1,.l 2,.l 3,.l 4,.m 5,.l 6,.l 7])] }
def aOK:List aW:=[aEp,jI]
theorem aT1 (k:Nat) (x:bI×Int×Bool):aE2 k x.1 x.2.1 x.2.2=fx xt aOK aEe Tryz.f41 aNV (aA Tryz.f41) k x:=by kernel_rfl
theorem aTL (K:Nat):aE Tryz.prog aEe K:=aJ (X:=xt) (g:=aEe) (H:=aNV) (env:=aOK) (c:=aA Tryz.f41) aK mixed (fun k=>(aB.cons (aT3 k) (aB.cons (aJI k) aB.nil))) Tryz.func41 (by kernel_rfl) (by kernel_rfl) (by kernel_rfl) (aD.all aD.zero (by kernel_rfl) (by kernel_rfl)) aT1 K
def qY:aW:={ fid:=43,Γ:=[.tree],args:=[(.var 0)],Δ:=[(.int .i64)],res:=(.var 0),f:=fun k x=>rO k x }
def aFS:LH (Int):={ Γ:=[(.int .i64),(.list false .tree),(.int .i64)],live:=[(3,(.var 0)),(11,(.var 1)),(12,(.len 1)),(13,(.var 2))],F:=fun k x=>pE k x.1 x.2.1 x.2.2 }
def aIn:aG (Int):={ loops:=[(5,aFS)] }
def aH6:List aW:=[qY]
theorem aT9 (k:Nat) (x:Tr):rO (k+1) x=fx xt aH6 qY Tryz.f43 aIn (aA Tryz.f43) k x:=(rO.eq_def ..).trans (by kernel_rfl)
theorem aO2 (k:Nat) (x:Int×(List Tr)×Int):pE (k+1) x.1 x.2.1 x.2.2=iW xt aH6 23 0 aIn (aA Tryz.f43) (iI xt.T Tryz.f43.results qY) 0 aFS k x:=(pE.eq_def ..).trans (by kernel_rfl)
theorem aR2 (K:Nat):aE Tryz.prog qY K:=by
 induction K using Nat.strongRecOn with
 | ind K ih=>exact bC (X:=xt) (g:=qY) (H:=aIn) (env:=aH6) (c:=aA Tryz.f43) aK mixed (fun k hk=>(aB.cons (ih k hk) aB.nil)) Tryz.func43 (by kernel_rfl) (by kernel_rfl) (by kernel_rfl) (aD.all (aD.zero.succ aFS (by kernel_rfl) (fun _=>rfl) aO2) (by kernel_rfl) (by kernel_rfl)) (fun _=>rfl) aT9
theorem aMg (K:Nat):aE Tryz.prog qY K:=(aR2 K)
def mT:aW:={ fid:=44,Γ:=[.tree],args:=[(.var 0)],Δ:=[(.int .i64)],res:=(.var 0),f:=fun k x=>mD k x }
def aE7:LH (Int):={ Γ:=[(.int .i64),(.list false .tree),(.int .i64)],live:=[(3,(.var 0)),(11,(.var 1)),(12,(.len 1)),(13,(.var 2))],F:=fun k x=>oV k x.1 x.2.1 x.2.2 }
def aHU:aG (Int):={ loops:=[(5,aE7)] }
def aH0:List aW:=[mT]
theorem aTR (k:Nat) (x:Tr):mD (k+1) x=fx xt aH0 mT Tryz.f44 aHU (aA Tryz.f44) k x:=(mD.eq_def ..).trans (by kernel_rfl)
theorem aPG (k:Nat) (x:Int×(List Tr)×Int):oV (k+1) x.1 x.2.1 x.2.2=iW xt aH0 24 0 aHU (aA Tryz.f44) (iI xt.T Tryz.f44.results mT) 0 aE7 k x:=(oV.eq_def ..).trans (by kernel_rfl)
theorem aRP (K:Nat):aE Tryz.prog mT K:=by
 induction K using Nat.strongRecOn with
 | ind K ih=>exact bC (X:=xt) (g:=mT) (H:=aHU) (env:=aH0) (c:=aA Tryz.f44) aK mixed (fun k hk=>(aB.cons (ih k hk) aB.nil)) Tryz.func44 (by kernel_rfl) (by kernel_rfl) (by kernel_rfl) (aD.all (aD.zero.succ aE7 (by kernel_rfl) (fun _=>rfl) aPG) (by kernel_rfl) (by kernel_rfl)) (fun _=>rfl) aTR
theorem aCZ (K:Nat):aE Tryz.prog mT K:=(aRP K)
def uU:aW:={ fid:=18,Γ:=[.str],args:=[(.var 0)],Δ:=[.tree,(.int .i64),(.int .i64)],res:=(.tup [(.var 0),(.var 1),(.var 2)]),f:=fun k x=>kK k x }
def aDQ:LH (Tr×Int×Int):={ Γ:=[.str,(.int .i64),jD,(.list false .tree),(.int .i64)],live:=[(0,(.var 0)),(4,(.var 1)),(5,(.var 2)),(6,(.var 3)),(7,(.var 4))],F:=fun k x=>gA k x.1 x.2.1 x.2.2.1 x.2.2.2.1 x.2.2.2.2 }
def aGN:aG (Tr×Int×Int):={ cuts:=[(7,aDQ)] }
def aGR:List aW:=[aA6,aEe,sQ,qY,mT]
theorem aSs (k:Nat) (x:(List UInt8)):kK k x=fx xt aGR uU Tryz.f18 aGN (aA Tryz.f18) k x:=by kernel_rfl
theorem aOX (k:Nat) (x:(List UInt8)×Int×bI×(List Tr)×Int):gA (k+1) x.1 x.2.1 x.2.2.1 x.2.2.2.1 x.2.2.2.2=iW xt aGR 58 0 aGN (aA Tryz.f18) (iI xt.T Tryz.f18.results uU) 0 aDQ k x:=(gA.eq_def ..).trans (by kernel_rfl)
theorem aKh (K:Nat):aE Tryz.prog uU K:=aJ (X:=xt) (g:=uU) (H:=aGN) (env:=aGR) (c:=aA Tryz.f18) aK mixed (fun k=>(aB.cons (aWo k) (aB.cons (aTL k) (aB.cons (aB4 k) (aB.cons (aMg k) (aB.cons (aCZ k) aB.nil)))))) Tryz.func18 (by kernel_rfl) (by kernel_rfl) (by kernel_rfl) (aD.all (aD.zero.succ aDQ (by kernel_rfl) (fun _=>rfl) aOX) (by kernel_rfl) (by kernel_rfl)) aSs K
def aAh:aW:={ fid:=155,Γ:=[.tree],args:=[(.var 0)],Δ:=[.bool],res:=(.var 0),f:=fun k x=>uS k x }
def pH:aW:={ fid:=176,Γ:=[(.list false .tree)],args:=[(.var 0),(.fn 155 [] [])],Δ:=[(.int .i64)],res:=(.var 0),f:=fun k x=>slices_IndexFunc k x }
def qB:aW:={ fid:=154,Γ:=[(.list false .tree)],args:=[(.var 0),(.fn 155 [] [])],Δ:=[.bool],res:=(.var 0),f:=fun k x=>slices_ContainsFunc k x }
def uV:aW:={ fid:=130,Γ:=[.tree],args:=[(.var 0)],Δ:=[.bool],res:=(.var 0),f:=fun k x=>qP k x }
def aI3:aG (Bool):={}
def aIY:List aW:=[uV]
theorem aO3 (k:Nat) (x:Tr):uS (k+1) x=fx xt aIY aAh Tryz.f155 aI3 (aA Tryz.f155) k x:=(uS.eq_def ..).trans (by kernel_rfl)
def wG:LH (Int):={ Γ:=[(.list false .tree),(.int .i64)],live:=[(0,(.var 0)),(1,(.fn 155 [] [])),(7,(.len 0)),(8,(.var 1))],F:=fun k x=>fD k x.1 x.2 }
def aAE:aG (Int):={ loops:=[(2,wG)] }
def aAv:List aW:=[aAh]
theorem aLC (k:Nat) (x:(List Tr)):slices_IndexFunc (k+1) x=fx xt aAv pH Tryz.f176 aAE (aA Tryz.f176) k x:=(slices_IndexFunc.eq_def ..).trans (by kernel_rfl)
theorem aHQ (k:Nat) (x:(List Tr)×Int):fD (k+1) x.1 x.2=iW xt aAv 19 0 aAE (aA Tryz.f176) (iI xt.T Tryz.f176.results pH) 0 wG k x:=(fD.eq_def ..).trans (by kernel_rfl)
def aCi:aG (Bool):={}
def aCe:List aW:=[pH]
theorem aIy (k:Nat) (x:(List Tr)):slices_ContainsFunc (k+1) x=fx xt aCe qB Tryz.f154 aCi (aA Tryz.f154) k x:=(slices_ContainsFunc.eq_def ..).trans (by kernel_rfl)
def aMp:aG (Bool):={}
def aLL:List aW:=[qB]
theorem aRB (k:Nat) (x:Tr):qP (k+1) x=fx xt aLL uV Tryz.f130 aMp (aA Tryz.f130) k x:=(qP.eq_def ..).trans (by kernel_rfl)
theorem aOJ (K:Nat):aE Tryz.prog aAh K∧aE Tryz.prog pH K∧aE Tryz.prog qB K∧aE Tryz.prog uV K:=by
 induction K using Nat.strongRecOn with
 | ind K ih=>exact ⟨bC (X:=xt) (g:=aAh) (H:=aI3) (env:=aIY) (c:=aA Tryz.f155) aK mixed (fun k hk=>(aB.cons (ih k hk).2.2.2 aB.nil)) Tryz.func155 (by kernel_rfl) (by kernel_rfl) (by kernel_rfl) (aD.all aD.zero (by kernel_rfl) (by kernel_rfl)) (fun _=>rfl) aO3,bC (X:=xt) (g:=pH) (H:=aAE) (env:=aAv) (c:=aA Tryz.f176) aK mixed (fun k hk=>(aB.cons (ih k hk).1 aB.nil)) Tryz.func176 (by kernel_rfl) (by kernel_rfl) (by kernel_rfl) (aD.all (aD.zero.succ wG (by kernel_rfl) (fun _=>rfl) aHQ) (by kernel_rfl) (by kernel_rfl)) (fun _=>rfl) aLC,bC (X:=xt) (g:=qB) (H:=aCi) (env:=aCe) (c:=aA Tryz.f154) aK mixed (fun k hk=>(aB.cons (ih k hk).2.1 aB.nil)) Tryz.func154 (by kernel_rfl) (by kernel_rfl) (by kernel_rfl) (aD.all aD.zero (by kernel_rfl) (by kernel_rfl)) (fun _=>rfl) aIy,bC (X:=xt) (g:=uV) (H:=aMp) (env:=aLL) (c:=aA Tryz.f130) aK mixed (fun k hk=>(aB.cons (ih k hk).2.2.1 aB.nil)) Tryz.func130 (by kernel_rfl) (by kernel_rfl) (by kernel_rfl) (aD.all aD.zero (by kernel_rfl) (by kernel_rfl)) (fun _=>rfl) aRB⟩
theorem aTl (K:Nat):aE Tryz.prog uV K:=(aOJ K).2.2.2
def pM:aW:={ fid:=131,Γ:=[.tree,(.list false (.pair (.int .i64) (.pair (.int .i64) (.pair .str (.pair .str (.list false (.int .i64)))))))],args:=[(.var 0),(.ref 0 0),(.ref 1 0)],sto:=[(0,(.cells 75 1 [(.fn 131 [] [(.ref 0 0),(.ref 1 0)])] false)),(1,(.cells 24 1 [(.row 2 1)] false)),(2,(.list 51 1 none))],nk:=2,nr:=1,Δ:=[(.int .i64),(.list false (.pair (.int .i64) (.pair (.int .i64) (.pair .str (.pair .str (.list false (.int .i64)))))))],res:=(.var 0),sto':=[(0,(.cells 75 1 [(.fn 131 [] [(.ref 0 0),(.ref 1 0)])] false)),(1,(.cells 24 1 [(.row 2 1)] false)),(2,(.list 51 1 none))],nk':=3,f:=fun k x=>qW k x.1 x.2 }
def aCt:LH (Int×(List (Int×Int×(List UInt8)×(List UInt8)×(List Int)))):={ Γ:=[(.list false .tree),(.int .i64),(.list false (.pair (.int .i64) (.pair (.int .i64) (.pair .str (.pair .str (.list false (.int .i64))))))),(.int .i64),(.int .i64),.str,.str,(.list false (.int .i64))],live:=[(1,(.ref 0 0)),(2,(.ref 1 0)),(5,(.ref 2 0)),(28,(.var 0)),(29,(.len 0)),(30,(.var 1))],sto:=[(0,(.cells 75 1 [(.fn 131 [] [(.ref 0 0),(.ref 1 0)])] false)),(1,(.cells 24 1 [(.row 3 2)] false)),(2,(.cells 51 5 [(.var 3),(.var 4),(.var 5),(.var 6),(.row 4 7)] false)),(3,(.list 51 2 none)),(4,(.list 3 7 none))],nk:=5,ad:=[.c 5 4 3 (.int .i64)],F:=fun k x=>lM k x.1 x.2.1 x.2.2.1 x.2.2.2.1 x.2.2.2.2.1 x.2.2.2.2.2.1 x.2.2.2.2.2.2.1 x.2.2.2.2.2.2.2 }
def aFp:aG (Int×(List (Int×Int×(List UInt8)×(List UInt8)×(List Int)))):={ ord:=[(1,[.l 0,.l 1,.l 2,.l 3,.l 4,.l 5,.l 6,.l 7,.l 8,.l 9,.l 10,.l 11,.l 12,.l 13,.l 14,.l 15,.l 16,.h 17,.h 18]),(5,[.l 0,.l 1,.l 2,.l 3,.h 4,.l 5,.h 6,.l 7,.h 8])],loops:=[(3,aCt)] }
def aFm:List aW:=[pM]
theorem aQS (k:Nat) (x:Tr×(List (Int×Int×(List UInt8)×(List UInt8)×(List Int)))):qW (k+1) x.1 x.2=fx xt aFm pM Tryz.f131 aFp (aA Tryz.f131) k x:=(qW.eq_def ..).trans (by kernel_rfl)
theorem aNf (k:Nat) (x:(List Tr)×Int×(List (Int×Int×(List UInt8)×(List UInt8)×(List Int)))×Int×Int×(List UInt8)×(List UInt8)×(List Int)):lM (k+1) x.1 x.2.1 x.2.2.1 x.2.2.2.1 x.2.2.2.2.1 x.2.2.2.2.2.1 x.2.2.2.2.2.2.1 x.2.2.2.2.2.2.2=iW xt aFm 53 2 aFp (aA Tryz.f131) (iI xt.T Tryz.f131.results pM) 0 aCt k x:=(lM.eq_def ..).trans (by kernel_rfl)
theorem aPI (K:Nat):aE Tryz.prog pM K:=by
 induction K using Nat.strongRecOn with
 | ind K ih=>exact bC (X:=xt) (g:=pM) (H:=aFp) (env:=aFm) (c:=aA Tryz.f131) aK mixed (fun k hk=>(aB.cons (ih k hk) aB.nil)) Tryz.func131 (by kernel_rfl) (by kernel_rfl) (by kernel_rfl) (aD.all (aD.zero.succ aCt (by kernel_rfl) (fun _=>rfl) aNf) (by kernel_rfl) (by kernel_rfl)) (fun _=>rfl) aQS
theorem aQ0 (K:Nat):aE Tryz.prog pM K:=(aPI K)
def xG:aW:={ fid:=91,Γ:=[.tree],args:=[(.var 0)],Δ:=[(.list false (.pair (.int .i64) (.pair (.int .i64) (.pair .str (.pair .str (.list false (.int .i64))))))),(.int .i64)],res:=(.tup [(.agg [(.var 0)]),(.var 1)]),f:=fun k x=>wO k x }
def aOO:aG ((List (Int×Int×(List UInt8)×(List UInt8)×(List Int)))×Int):={ adr:=[(8,[.c 4 0 51 (.pair (.int .i64) (.pair (.int .i64) (.pair .str (.pair .str (.list false (.int .i64))))))])] }
def aOP:List aW:=[uV,qY,pM]
theorem aTI (k:Nat) (x:Tr):wO k x=fx xt aOP xG Tryz.f91 aOO (aA Tryz.f91) k x:=by kernel_rfl
theorem aG7 (K:Nat):aE Tryz.prog xG K:=aJ (X:=xt) (g:=xG) (H:=aOO) (env:=aOP) (c:=aA Tryz.f91) aK mixed (fun k=>(aB.cons (aTl k) (aB.cons (aMg k) (aB.cons (aQ0 k) aB.nil)))) Tryz.func91 (by kernel_rfl) (by kernel_rfl) (by kernel_rfl) (aD.all aD.zero (by kernel_rfl) (by kernel_rfl)) aTI K
def iG:aW:={ fid:=92,Γ:=[.tree,.bool,.bool,.bool],args:=[(.var 0),(.var 1),(.var 2),(.var 3)],Δ:=[.bool],res:=(.var 0),f:=fun k x=>bK k x.1 x.2.1 x.2.2.1 x.2.2.2 }
def aOe:aG (Bool):={}
def aN3:List aW:=[]
theorem aTP (k:Nat) (x:Tr×Bool×Bool×Bool):bK k x.1 x.2.1 x.2.2.1 x.2.2.2=fx xt aN3 iG Tryz.f92 aOe (aA Tryz.f92) k x:=by kernel_rfl
theorem jS (K:Nat):aE Tryz.prog iG K:=aJ (X:=xt) (g:=iG) (H:=aOe) (env:=aN3) (c:=aA Tryz.f92) aK mixed (fun k=>aB.nil) Tryz.func92 (by kernel_rfl) (by kernel_rfl) (by kernel_rfl) (aD.all aD.zero (by kernel_rfl) (by kernel_rfl)) aTP K
def mM:aW:={ fid:=111,Γ:=[.tree],args:=[(.var 0),.nils],Δ:=[.bool],res:=(.var 0),f:=fun k x=>iC k x }
def aFW:LH (Bool):={ Γ:=[.tree],live:=[(0,(.var 0)),(15,.nils),(16,(.int .i64 0)),(17,(.int .i64 0))],F:=fun k x=>zM k x }
def aIz:aG (Bool):={ loops:=[(4,aFW)] }
def aIm:List aW:=[]
theorem aUu (k:Nat) (x:Tr):iC k x=fx xt aIm mM Tryz.f111 aIz (aA Tryz.f111) k x:=by kernel_rfl
theorem aPy (k:Nat) (x:Tr):zM (k+1) x=iW xt aIm 33 0 aIz (aA Tryz.f111) (iI xt.T Tryz.f111.results mM) 0 aFW k x:=(zM.eq_def ..).trans (by kernel_rfl)
theorem uR (K:Nat):aE Tryz.prog mM K:=aJ (X:=xt) (g:=mM) (H:=aIz) (env:=aIm) (c:=aA Tryz.f111) aK mixed (fun k=>aB.nil) Tryz.func111 (by kernel_rfl) (by kernel_rfl) (by kernel_rfl) (aD.all (aD.zero.succ aFW (by kernel_rfl) (fun _=>rfl) aPy) (by kernel_rfl) (by kernel_rfl)) aUu K
def qQ:aW:={ fid:=114,Γ:=[.tree],args:=[(.var 0)],Δ:=[.bool],res:=(.var 0),f:=fun k x=>rI k x }
def aB8:aW:={ fid:=111,Γ:=[.tree],args:=[(.var 0),(.slc [(.fn 113 [] []),(.fn 113 [] [])] 2 true)],Δ:=[.bool],res:=(.var 0),f:=fun k x=>uF k x }
def jU:aW:={ fid:=113,Γ:=[.tree],args:=[(.var 0)],Δ:=[.bool],res:=(.var 0),f:=fun k x=>fB k x }
def pK:aW:={ fid:=111,Γ:=[.tree],args:=[(.var 0),(.slc [(.fn 113 [] [])] 1 true)],Δ:=[.bool],res:=(.var 0),f:=fun k x=>mN k x }
def aFN:LH (Bool):={ Γ:=[.tree,(.list false .tree),(.int .i64),(.list false (.pair .str .bool))],live:=[(0,(.var 0)),(3,(.mp 0)),(10,(.var 1)),(11,(.len 1)),(12,(.var 2))],sto:=[(0,(.map 3))],nk:=1,F:=fun k x=>pF k x.1 x.2.1 x.2.2.1 x.2.2.2 }
def aIJ:aG (Bool):={ loops:=[(3,aFN)] }
def aHO:List aW:=[iG,fN,pK]
theorem aT0 (k:Nat) (x:Tr):rI (k+1) x=fx xt aHO qQ Tryz.f114 aIJ (aA Tryz.f114) k x:=(rI.eq_def ..).trans (by kernel_rfl)
theorem aPJ (k:Nat) (x:Tr×(List Tr)×Int×(List ((List UInt8)×Bool))):pF (k+1) x.1 x.2.1 x.2.2.1 x.2.2.2=iW xt aHO 60 0 aIJ (aA Tryz.f114) (iI xt.T Tryz.f114.results qQ) 0 aFN k x:=(pF.eq_def ..).trans (by kernel_rfl)
def aJE:aG (Bool):={ unr:=[(4,13)] }
def aKj:List aW:=[jU]
theorem aRb (k:Nat) (x:Tr):uF (k+1) x=fx xt aKj aB8 Tryz.f111 aJE (aA Tryz.f111) k x:=(uF.eq_def ..).trans (by kernel_rfl)
def aJp:aG (Bool):={}
def aKd:List aW:=[iG,mM,mO,aB8,fN,qQ]
theorem aQ7 (k:Nat) (x:Tr):fB (k+1) x=fx xt aKd jU Tryz.f113 aJp (aA Tryz.f113) k x:=(fB.eq_def ..).trans (by kernel_rfl)
def aKJ:aG (Bool):={ unr:=[(4,13)] }
def aKE:List aW:=[jU]
theorem aQE (k:Nat) (x:Tr):mN (k+1) x=fx xt aKE pK Tryz.f111 aKJ (aA Tryz.f111) k x:=(mN.eq_def ..).trans (by kernel_rfl)
theorem aEK (K:Nat):aE Tryz.prog qQ K∧aE Tryz.prog aB8 K∧aE Tryz.prog jU K∧aE Tryz.prog pK K:=by
 induction K using Nat.strongRecOn with
 | ind K ih=>exact ⟨bC (X:=xt) (g:=qQ) (H:=aIJ) (env:=aHO) (c:=aA Tryz.f114) aK mixed (fun k hk=>(aB.cons (jS k) (aB.cons (iM k) (aB.cons (ih k hk).2.2.2 aB.nil)))) Tryz.func114 (by kernel_rfl) (by kernel_rfl) (by kernel_rfl) (aD.all (aD.zero.succ aFN (by kernel_rfl) (fun _=>rfl) aPJ) (by kernel_rfl) (by kernel_rfl)) (fun _=>rfl) aT0,bC (X:=xt) (g:=aB8) (H:=aJE) (env:=aKj) (c:=aA Tryz.f111) aK mixed (fun k hk=>(aB.cons (ih k hk).2.2.1 aB.nil)) Tryz.func111 (by kernel_rfl) (by kernel_rfl) (by kernel_rfl) (aD.all aD.zero (by kernel_rfl) (by kernel_rfl)) (fun _=>rfl) aRb,bC (X:=xt) (g:=jU) (H:=aJp) (env:=aKd) (c:=aA Tryz.f113) aK mixed (fun k hk=>(aB.cons (jS k) (aB.cons (uR k) (aB.cons (rM k) (aB.cons (ih k hk).2.1 (aB.cons (iM k) (aB.cons (ih k hk).1 aB.nil))))))) Tryz.func113 (by kernel_rfl) (by kernel_rfl) (by kernel_rfl) (aD.all aD.zero (by kernel_rfl) (by kernel_rfl)) (fun _=>rfl) aQ7,bC (X:=xt) (g:=pK) (H:=aKJ) (env:=aKE) (c:=aA Tryz.f111) aK mixed (fun k hk=>(aB.cons (ih k hk).2.2.1 aB.nil)) Tryz.func111 (by kernel_rfl) (by kernel_rfl) (by kernel_rfl) (aD.all aD.zero (by kernel_rfl) (by kernel_rfl)) (fun _=>rfl) aQE⟩
theorem aLM (K:Nat):aE Tryz.prog qQ K:=(aEK K).1
theorem aAc (K:Nat):aE Tryz.prog jU K:=(aEK K).2.2.1
theorem aIS (K:Nat):aE Tryz.prog pK K:=(aEK K).2.2.2
def aAe:aW:={ fid:=111,Γ:=[.tree],args:=[(.var 0),(.slc [(.fn 74 [] []),(.fn 113 [] [])] 2 true)],Δ:=[.bool],res:=(.var 0),f:=fun k x=>uT k x }
def aBL:aW:={ fid:=75,Γ:=[.tree],args:=[(.var 0)],Δ:=[.bool],res:=(.var 0),f:=fun k x=>tV k x }
def wU:aW:={ fid:=93,Γ:=[.tree,(.int .i64)],args:=[(.var 0),(.var 1),(.fn 75 [] [])],Δ:=[.bool],res:=(.var 0),f:=fun k x=>yA k x.1 x.2 }
def oU:aW:={ fid:=74,Γ:=[.tree],args:=[(.var 0)],Δ:=[.bool],res:=(.var 0),f:=fun k x=>lN k x }
def sD:aW:={ fid:=111,Γ:=[.tree],args:=[(.var 0),(.slc [(.fn 74 [] [])] 1 true)],Δ:=[.bool],res:=(.var 0),f:=fun k x=>oQ k x }
def aIR:aG (Bool):={ unr:=[(4,13)] }
def aIN:List aW:=[oU,jU]
theorem aO5 (k:Nat) (x:Tr):uT (k+1) x=fx xt aIN aAe Tryz.f111 aIR (aA Tryz.f111) k x:=(uT.eq_def ..).trans (by kernel_rfl)
def aJO:aG (Bool):={}
def aJ6:List aW:=[iG,sD,mO,mM,fN,pK,qQ]
theorem aQP (k:Nat) (x:Tr):tV (k+1) x=fx xt aJ6 aBL Tryz.f75 aJO (aA Tryz.f75) k x:=(tV.eq_def ..).trans (by kernel_rfl)
def aCI:LH (Bool):={ Γ:=[(.list false .tree),(.int .i64)],live:=[(2,(.fn 75 [] [])),(14,(.var 0)),(15,(.len 0)),(16,(.var 1))],F:=fun k x=>qG k x.1 x.2 }
def aEE:aG (Bool):={ loops:=[(2,aCI)] }
def aE6:List aW:=[aBL]
theorem aQI (k:Nat) (x:Tr×Int):yA (k+1) x.1 x.2=fx xt aE6 wU Tryz.f93 aEE (aA Tryz.f93) k x:=(yA.eq_def ..).trans (by kernel_rfl)
theorem aMY (k:Nat) (x:(List Tr)×Int):qG (k+1) x.1 x.2=iW xt aE6 25 0 aEE (aA Tryz.f93) (iI xt.T Tryz.f93.results wU) 0 aCI k x:=(qG.eq_def ..).trans (by kernel_rfl)
def aLX:aG (Bool):={}
def aMz:List aW:=[iG,wU,fN,mM,mO,aAe]
theorem aSr (k:Nat) (x:Tr):lN (k+1) x=fx xt aMz oU Tryz.f74 aLX (aA Tryz.f74) k x:=(lN.eq_def ..).trans (by kernel_rfl)
def aJw:aG (Bool):={ unr:=[(4,13)] }
def aJ9:List aW:=[oU]
theorem aQO (k:Nat) (x:Tr):oQ (k+1) x=fx xt aJ9 sD Tryz.f111 aJw (aA Tryz.f111) k x:=(oQ.eq_def ..).trans (by kernel_rfl)
theorem aGi (K:Nat):aE Tryz.prog aAe K∧aE Tryz.prog aBL K∧aE Tryz.prog wU K∧aE Tryz.prog oU K∧aE Tryz.prog sD K:=by
 induction K using Nat.strongRecOn with
 | ind K ih=>exact ⟨bC (X:=xt) (g:=aAe) (H:=aIR) (env:=aIN) (c:=aA Tryz.f111) aK mixed (fun k hk=>(aB.cons (ih k hk).2.2.2.1 (aB.cons (aAc k) aB.nil))) Tryz.func111 (by kernel_rfl) (by kernel_rfl) (by kernel_rfl) (aD.all aD.zero (by kernel_rfl) (by kernel_rfl)) (fun _=>rfl) aO5,bC (X:=xt) (g:=aBL) (H:=aJO) (env:=aJ6) (c:=aA Tryz.f75) aK mixed (fun k hk=>(aB.cons (jS k) (aB.cons (ih k hk).2.2.2.2 (aB.cons (rM k) (aB.cons (uR k) (aB.cons (iM k) (aB.cons (aIS k) (aB.cons (aLM k) aB.nil)))))))) Tryz.func75 (by kernel_rfl) (by kernel_rfl) (by kernel_rfl) (aD.all aD.zero (by kernel_rfl) (by kernel_rfl)) (fun _=>rfl) aQP,bC (X:=xt) (g:=wU) (H:=aEE) (env:=aE6) (c:=aA Tryz.f93) aK mixed (fun k hk=>(aB.cons (ih k hk).2.1 aB.nil)) Tryz.func93 (by kernel_rfl) (by kernel_rfl) (by kernel_rfl) (aD.all (aD.zero.succ aCI (by kernel_rfl) (fun _=>rfl) aMY) (by kernel_rfl) (by kernel_rfl)) (fun _=>rfl) aQI,bC (X:=xt) (g:=oU) (H:=aLX) (env:=aMz) (c:=aA Tryz.f74) aK mixed (fun k hk=>(aB.cons (jS k) (aB.cons (ih k hk).2.2.1 (aB.cons (iM k) (aB.cons (uR k) (aB.cons (rM k) (aB.cons (ih k hk).1 aB.nil))))))) Tryz.func74 (by kernel_rfl) (by kernel_rfl) (by kernel_rfl) (aD.all aD.zero (by kernel_rfl) (by kernel_rfl)) (fun _=>rfl) aSr,bC (X:=xt) (g:=sD) (H:=aJw) (env:=aJ9) (c:=aA Tryz.f111) aK mixed (fun k hk=>(aB.cons (ih k hk).2.2.2.1 aB.nil)) Tryz.func111 (by kernel_rfl) (by kernel_rfl) (by kernel_rfl) (aD.all aD.zero (by kernel_rfl) (by kernel_rfl)) (fun _=>rfl) aQO⟩
theorem aJ3 (K:Nat):aE Tryz.prog oU K:=(aGi K).2.2.2.1
theorem aQN (K:Nat):aE Tryz.prog sD K:=(aGi K).2.2.2.2
def aBt:aW:={ fid:=181,Γ:=[.tree],args:=[(.var 0)],Δ:=[.bool],res:=(.var 0),f:=fun k x=>tK k x }
def wV:aW:={ fid:=93,Γ:=[.tree,(.int .i64)],args:=[(.var 0),(.var 1),(.fn 181 [] [])],Δ:=[.bool],res:=(.var 0),f:=fun k x=>aBU k x.1 x.2 }
def aEi:aW:={ fid:=167,Γ:=[.tree,(.int .i64)],args:=[(.var 0),(.var 1)],Δ:=[.bool],res:=(.var 0),f:=fun k x=>aAp k x.1 x.2 }
def aBR:aW:={ fid:=111,Γ:=[.tree],args:=[(.var 0),(.slc [(.fn 140 [] []),(.fn 140 [] [])] 2 true)],Δ:=[.bool],res:=(.var 0),f:=fun k x=>uA k x }
def sF:aW:={ fid:=111,Γ:=[.tree],args:=[(.var 0),(.slc [(.fn 113 [] []),(.fn 140 [] [])] 2 true)],Δ:=[.bool],res:=(.var 0),f:=fun k x=>qM k x }
def aBl:aW:={ fid:=93,Γ:=[.tree,(.int .i64)],args:=[(.var 0),(.var 1),(.fn 140 [] [])],Δ:=[.bool],res:=(.var 0),f:=fun k x=>aEY k x.1 x.2 }
def aBx:aW:={ fid:=166,Γ:=[.tree,(.int .i64)],args:=[(.var 0),(.var 1)],Δ:=[.bool],res:=(.var 0),f:=fun k x=>kZ k x.1 x.2 }
def jY:aW:={ fid:=140,Γ:=[.tree],args:=[(.var 0)],Δ:=[.bool],res:=(.var 0),f:=fun k x=>fW k x }
def sG:aW:={ fid:=111,Γ:=[.tree],args:=[(.var 0),(.slc [(.fn 140 [] [])] 1 true)],Δ:=[.bool],res:=(.var 0),f:=fun k x=>qS k x }
def aKw:aG (Bool):={}
def aKL:List aW:=[iG,fN,sG]
theorem aQw (k:Nat) (x:Tr):tK (k+1) x=fx xt aKL aBt Tryz.f181 aKw (aA Tryz.f181) k x:=(tK.eq_def ..).trans (by kernel_rfl)
def aCr:LH (Bool):={ Γ:=[(.list false .tree),(.int .i64)],live:=[(2,(.fn 181 [] [])),(14,(.var 0)),(15,(.len 0)),(16,(.var 1))],F:=fun k x=>qI k x.1 x.2 }
def aET:aG (Bool):={ loops:=[(2,aCr)] }
def aFJ:List aW:=[aBt]
theorem aRi (k:Nat) (x:Tr×Int):aBU (k+1) x.1 x.2=fx xt aFJ wV Tryz.f93 aET (aA Tryz.f93) k x:=(aBU.eq_def ..).trans (by kernel_rfl)
theorem aMV (k:Nat) (x:(List Tr)×Int):qI (k+1) x.1 x.2=iW xt aFJ 25 0 aET (aA Tryz.f93) (iI xt.T Tryz.f93.results wV) 0 aCr k x:=(qI.eq_def ..).trans (by kernel_rfl)
def aOu:aG (Bool):={}
def aOA:List aW:=[wV]
theorem aT2 (k:Nat) (x:Tr×Int):aAp (k+1) x.1 x.2=fx xt aOA aEi Tryz.f167 aOu (aA Tryz.f167) k x:=(aAp.eq_def ..).trans (by kernel_rfl)
def aKP:aG (Bool):={ unr:=[(4,13)] }
def aJR:List aW:=[jY]
theorem aRg (k:Nat) (x:Tr):uA (k+1) x=fx xt aJR aBR Tryz.f111 aKP (aA Tryz.f111) k x:=(uA.eq_def ..).trans (by kernel_rfl)
def aKl:aG (Bool):={ unr:=[(4,13)] }
def aJB:List aW:=[jU,jY]
theorem aQG (k:Nat) (x:Tr):qM (k+1) x=fx xt aJB sF Tryz.f111 aKl (aA Tryz.f111) k x:=(qM.eq_def ..).trans (by kernel_rfl)
def aE1:LH (Bool):={ Γ:=[(.list false .tree),(.int .i64)],live:=[(2,(.fn 140 [] [])),(14,(.var 0)),(15,(.len 0)),(16,(.var 1))],F:=fun k x=>uQ k x.1 x.2 }
def aID:aG (Bool):={ loops:=[(2,aE1)] }
def aHZ:List aW:=[jY]
theorem aTW (k:Nat) (x:Tr×Int):aEY (k+1) x.1 x.2=fx xt aHZ aBl Tryz.f93 aID (aA Tryz.f93) k x:=(aEY.eq_def ..).trans (by kernel_rfl)
theorem aPW (k:Nat) (x:(List Tr)×Int):uQ (k+1) x.1 x.2=iW xt aHZ 25 0 aID (aA Tryz.f93) (iI xt.T Tryz.f93.results aBl) 0 aE1 k x:=(uQ.eq_def ..).trans (by kernel_rfl)
def aKy:aG (Bool):={}
def aJo:List aW:=[iG,aBl]
theorem aQJ (k:Nat) (x:Tr×Int):kZ (k+1) x.1 x.2=fx xt aJo aBx Tryz.f166 aKy (aA Tryz.f166) k x:=(kZ.eq_def ..).trans (by kernel_rfl)
def aKz:aG (Bool):={}
def aKr:List aW:=[iG,mM,aBx,mO,fN,sF,aBR,aEi,jY,jU]
theorem aQy (k:Nat) (x:Tr):fW (k+1) x=fx xt aKr jY Tryz.f140 aKz (aA Tryz.f140) k x:=(fW.eq_def ..).trans (by kernel_rfl)
def aJv:aG (Bool):={ unr:=[(4,13)] }
def aKN:List aW:=[jY]
theorem aQ2 (k:Nat) (x:Tr):qS (k+1) x=fx xt aKN sG Tryz.f111 aJv (aA Tryz.f111) k x:=(qS.eq_def ..).trans (by kernel_rfl)
theorem aCv (K:Nat):aE Tryz.prog aBt K∧aE Tryz.prog wV K∧aE Tryz.prog aEi K∧aE Tryz.prog aBR K∧aE Tryz.prog sF K∧aE Tryz.prog aBl K∧aE Tryz.prog aBx K∧aE Tryz.prog jY K∧aE Tryz.prog sG K:=by
 induction K using Nat.strongRecOn with
 | ind K ih=>exact ⟨bC (X:=xt) (g:=aBt) (H:=aKw) (env:=aKL) (c:=aA Tryz.f181) aK mixed (fun k hk=>(aB.cons (jS k) (aB.cons (iM k) (aB.cons (ih k hk).2.2.2.2.2.2.2.2 aB.nil)))) Tryz.func181 (by kernel_rfl) (by kernel_rfl) (by kernel_rfl) (aD.all aD.zero (by kernel_rfl) (by kernel_rfl)) (fun _=>rfl) aQw,bC (X:=xt) (g:=wV) (H:=aET) (env:=aFJ) (c:=aA Tryz.f93) aK mixed (fun k hk=>(aB.cons (ih k hk).1 aB.nil)) Tryz.func93 (by kernel_rfl) (by kernel_rfl) (by kernel_rfl) (aD.all (aD.zero.succ aCr (by kernel_rfl) (fun _=>rfl) aMV) (by kernel_rfl) (by kernel_rfl)) (fun _=>rfl) aRi,bC (X:=xt) (g:=aEi) (H:=aOu) (env:=aOA) (c:=aA Tryz.f167) aK mixed (fun k hk=>(aB.cons (ih k hk).2.1 aB.nil)) Tryz.func167 (by kernel_rfl) (by kernel_rfl) (by kernel_rfl) (aD.all aD.zero (by kernel_rfl) (by kernel_rfl)) (fun _=>rfl) aT2,bC (X:=xt) (g:=aBR) (H:=aKP) (env:=aJR) (c:=aA Tryz.f111) aK mixed (fun k hk=>(aB.cons (ih k hk).2.2.2.2.2.2.2.1 aB.nil)) Tryz.func111 (by kernel_rfl) (by kernel_rfl) (by kernel_rfl) (aD.all aD.zero (by kernel_rfl) (by kernel_rfl)) (fun _=>rfl) aRg,bC (X:=xt) (g:=sF) (H:=aKl) (env:=aJB) (c:=aA Tryz.f111) aK mixed (fun k hk=>(aB.cons (aAc k) (aB.cons (ih k hk).2.2.2.2.2.2.2.1 aB.nil))) Tryz.func111 (by kernel_rfl) (by kernel_rfl) (by kernel_rfl) (aD.all aD.zero (by kernel_rfl) (by kernel_rfl)) (fun _=>rfl) aQG,bC (X:=xt) (g:=aBl) (H:=aID) (env:=aHZ) (c:=aA Tryz.f93) aK mixed (fun k hk=>(aB.cons (ih k hk).2.2.2.2.2.2.2.1 aB.nil)) Tryz.func93 (by kernel_rfl) (by kernel_rfl) (by kernel_rfl) (aD.all (aD.zero.succ aE1 (by kernel_rfl) (fun _=>rfl) aPW) (by kernel_rfl) (by kernel_rfl)) (fun _=>rfl) aTW,bC (X:=xt) (g:=aBx) (H:=aKy) (env:=aJo) (c:=aA Tryz.f166) aK mixed (fun k hk=>(aB.cons (jS k) (aB.cons (ih k hk).2.2.2.2.2.1 aB.nil))) Tryz.func166 (by kernel_rfl) (by kernel_rfl) (by kernel_rfl) (aD.all aD.zero (by kernel_rfl) (by kernel_rfl)) (fun _=>rfl) aQJ,bC (X:=xt) (g:=jY) (H:=aKz) (env:=aKr) (c:=aA Tryz.f140) aK mixed (fun k hk=>(aB.cons (jS k) (aB.cons (uR k) (aB.cons (ih k hk).2.2.2.2.2.2.1 (aB.cons (rM k) (aB.cons (iM k) (aB.cons (ih k hk).2.2.2.2.1 (aB.cons (ih k hk).2.2.2.1 (aB.cons (ih k hk).2.2.1 (aB.cons (ih k hk).2.2.2.2.2.2.2.1 (aB.cons (aAc k) aB.nil))))))))))) Tryz.func140 (by kernel_rfl) (by kernel_rfl) (by kernel_rfl) (aD.all aD.zero (by kernel_rfl) (by kernel_rfl)) (fun _=>rfl) aQy,bC (X:=xt) (g:=sG) (H:=aJv) (env:=aKN) (c:=aA Tryz.f111) aK mixed (fun k hk=>(aB.cons (ih k hk).2.2.2.2.2.2.2.1 aB.nil)) Tryz.func111 (by kernel_rfl) (by kernel_rfl) (by kernel_rfl) (aD.all aD.zero (by kernel_rfl) (by kernel_rfl)) (fun _=>rfl) aQ2⟩
theorem aQx (K:Nat):aE Tryz.prog sF K:=(aCv K).2.2.2.2.1
theorem aQR (K:Nat):aE Tryz.prog jY K:=(aCv K).2.2.2.2.2.2.2.1
theorem aQX (K:Nat):aE Tryz.prog sG K:=(aCv K).2.2.2.2.2.2.2.2
def aBn:aW:={ fid:=111,Γ:=[.tree],args:=[(.var 0),(.slc [(.fn 72 [] []),(.fn 74 [] [])] 2 true)],Δ:=[.bool],res:=(.var 0),f:=fun k x=>tP k x }
def vU:aW:={ fid:=111,Γ:=[.tree],args:=[(.var 0),(.slc [(.fn 72 [] [])] 1 true)],Δ:=[.bool],res:=(.var 0),f:=fun k x=>tG k x }
def nX:aW:={ fid:=109,Γ:=[.tree],args:=[(.var 0)],Δ:=[.bool],res:=(.var 0),f:=fun k x=>pC k x }
def vX:aW:={ fid:=93,Γ:=[.tree,(.int .i64)],args:=[(.var 0),(.var 1),(.fn 109 [] [])],Δ:=[.bool],res:=(.var 0),f:=fun k x=>xQ k x.1 x.2 }
def rH:aW:={ fid:=72,Γ:=[.tree],args:=[(.var 0)],Δ:=[.bool],res:=(.var 0),f:=fun k x=>pG k x }
def aKe:aG (Bool):={ unr:=[(4,13)] }
def aJF:List aW:=[rH,oU]
theorem aQF (k:Nat) (x:Tr):tP (k+1) x=fx xt aJF aBn Tryz.f111 aKe (aA Tryz.f111) k x:=(tP.eq_def ..).trans (by kernel_rfl)
def aKi:aG (Bool):={ unr:=[(4,13)] }
def aJx:List aW:=[rH]
theorem aRe (k:Nat) (x:Tr):tG (k+1) x=fx xt aJx vU Tryz.f111 aKi (aA Tryz.f111) k x:=(tG.eq_def ..).trans (by kernel_rfl)
def aBI:LH (Bool):={ Γ:=[.tree],live:=[(0,(.var 0))],F:=fun k x=>dX k x }
def aDC:aG (Bool):={ cuts:=[(7,aBI)] }
def aDB:List aW:=[iG,mO,mM,fN,sG,sF,pK,qQ,vU]
theorem aPc (k:Nat) (x:Tr):pC (k+1) x=fx xt aDB nX Tryz.f109 aDC (aA Tryz.f109) k x:=(pC.eq_def ..).trans (by kernel_rfl)
theorem aLK (k:Nat) (x:Tr):dX (k+1) x=iW xt aDB 56 0 aDC (aA Tryz.f109) (iI xt.T Tryz.f109.results nX) 0 aBI k x:=(dX.eq_def ..).trans (by kernel_rfl)
def aCG:LH (Bool):={ Γ:=[(.list false .tree),(.int .i64)],live:=[(2,(.fn 109 [] [])),(14,(.var 0)),(15,(.len 0)),(16,(.var 1))],F:=fun k x=>qL k x.1 x.2 }
def aFf:aG (Bool):={ loops:=[(2,aCG)] }
def aFQ:List aW:=[nX]
theorem aQ9 (k:Nat) (x:Tr×Int):xQ (k+1) x.1 x.2=fx xt aFQ vX Tryz.f93 aFf (aA Tryz.f93) k x:=(xQ.eq_def ..).trans (by kernel_rfl)
theorem aMP (k:Nat) (x:(List Tr)×Int):qL (k+1) x.1 x.2=iW xt aFQ 25 0 aFf (aA Tryz.f93) (iI xt.T Tryz.f93.results vX) 0 aCG k x:=(qL.eq_def ..).trans (by kernel_rfl)
def aLT:aG (Bool):={}
def aL1:List aW:=[iG,vX,mO,mM,fN,vU,aBn]
theorem aRH (k:Nat) (x:Tr):pG (k+1) x=fx xt aL1 rH Tryz.f72 aLT (aA Tryz.f72) k x:=(pG.eq_def ..).trans (by kernel_rfl)
theorem aHj (K:Nat):aE Tryz.prog aBn K∧aE Tryz.prog vU K∧aE Tryz.prog nX K∧aE Tryz.prog vX K∧aE Tryz.prog rH K:=by
 induction K using Nat.strongRecOn with
 | ind K ih=>exact ⟨bC (X:=xt) (g:=aBn) (H:=aKe) (env:=aJF) (c:=aA Tryz.f111) aK mixed (fun k hk=>(aB.cons (ih k hk).2.2.2.2 (aB.cons (aJ3 k) aB.nil))) Tryz.func111 (by kernel_rfl) (by kernel_rfl) (by kernel_rfl) (aD.all aD.zero (by kernel_rfl) (by kernel_rfl)) (fun _=>rfl) aQF,bC (X:=xt) (g:=vU) (H:=aKi) (env:=aJx) (c:=aA Tryz.f111) aK mixed (fun k hk=>(aB.cons (ih k hk).2.2.2.2 aB.nil)) Tryz.func111 (by kernel_rfl) (by kernel_rfl) (by kernel_rfl) (aD.all aD.zero (by kernel_rfl) (by kernel_rfl)) (fun _=>rfl) aRe,bC (X:=xt) (g:=nX) (H:=aDC) (env:=aDB) (c:=aA Tryz.f109) aK mixed (fun k hk=>(aB.cons (jS k) (aB.cons (rM k) (aB.cons (uR k) (aB.cons (iM k) (aB.cons (aQX k) (aB.cons (aQx k) (aB.cons (aIS k) (aB.cons (aLM k) (aB.cons (ih k hk).2.1 aB.nil)))))))))) Tryz.func109 (by kernel_rfl) (by kernel_rfl) (by kernel_rfl) (aD.all (aD.zero.succ aBI (by kernel_rfl) (fun _=>rfl) aLK) (by kernel_rfl) (by kernel_rfl)) (fun _=>rfl) aPc,bC (X:=xt) (g:=vX) (H:=aFf) (env:=aFQ) (c:=aA Tryz.f93) aK mixed (fun k hk=>(aB.cons (ih k hk).2.2.1 aB.nil)) Tryz.func93 (by kernel_rfl) (by kernel_rfl) (by kernel_rfl) (aD.all (aD.zero.succ aCG (by kernel_rfl) (fun _=>rfl) aMP) (by kernel_rfl) (by kernel_rfl)) (fun _=>rfl) aQ9,bC (X:=xt) (g:=rH) (H:=aLT) (env:=aL1) (c:=aA Tryz.f72) aK mixed (fun k hk=>(aB.cons (jS k) (aB.cons (ih k hk).2.2.2.1 (aB.cons (rM k) (aB.cons (uR k) (aB.cons (iM k) (aB.cons (ih k hk).2.1 (aB.cons (ih k hk).1 aB.nil)))))))) Tryz.func72 (by kernel_rfl) (by kernel_rfl) (by kernel_rfl) (aD.all aD.zero (by kernel_rfl) (by kernel_rfl)) (fun _=>rfl) aRH⟩
theorem aO0 (K:Nat):aE Tryz.prog nX K:=(aHj K).2.2.1
theorem aR8 (K:Nat):aE Tryz.prog rH K:=(aHj K).2.2.2.2
def aAk:aW:={ fid:=111,Γ:=[.tree],args:=[(.var 0),(.slc [(.fn 74 [] []),(.fn 72 [] [])] 2 true)],Δ:=[.bool],res:=(.var 0),f:=fun k x=>zL k x }
def aIL:aG (Bool):={ unr:=[(4,13)] }
def aJb:List aW:=[oU,rH]
theorem aPS (k:Nat) (x:Tr):zL k x=fx xt aJb aAk Tryz.f111 aIL (aA Tryz.f111) k x:=by kernel_rfl
theorem aPA (K:Nat):aE Tryz.prog aAk K:=aJ (X:=xt) (g:=aAk) (H:=aIL) (env:=aJb) (c:=aA Tryz.f111) aK mixed (fun k=>(aB.cons (aJ3 k) (aB.cons (aR8 k) aB.nil))) Tryz.func111 (by kernel_rfl) (by kernel_rfl) (by kernel_rfl) (aD.all aD.zero (by kernel_rfl) (by kernel_rfl)) aPS K
def aBH:aW:={ fid:=76,Γ:=[.tree],args:=[(.var 0)],Δ:=[.bool],res:=(.var 0),f:=fun k x=>aBy k x }
def aJW:aG (Bool):={}
def aKF:List aW:=[iG,fN,sD,aAk,nX]
theorem aRd (k:Nat) (x:Tr):aBy k x=fx xt aKF aBH Tryz.f76 aJW (aA Tryz.f76) k x:=by kernel_rfl
theorem aQQ (K:Nat):aE Tryz.prog aBH K:=aJ (X:=xt) (g:=aBH) (H:=aJW) (env:=aKF) (c:=aA Tryz.f76) aK mixed (fun k=>(aB.cons (jS k) (aB.cons (iM k) (aB.cons (aQN k) (aB.cons (aPA k) (aB.cons (aO0 k) aB.nil)))))) Tryz.func76 (by kernel_rfl) (by kernel_rfl) (by kernel_rfl) (aD.all aD.zero (by kernel_rfl) (by kernel_rfl)) aRd K
def wE:aW:={ fid:=93,Γ:=[.tree,(.int .i64)],args:=[(.var 0),(.var 1),(.fn 76 [] [])],Δ:=[.bool],res:=(.var 0),f:=fun k x=>aB2 k x.1 x.2 }
def aCp:LH (Bool):={ Γ:=[(.list false .tree),(.int .i64)],live:=[(2,(.fn 76 [] [])),(14,(.var 0)),(15,(.len 0)),(16,(.var 1))],F:=fun k x=>qF k x.1 x.2 }
def aFI:aG (Bool):={ loops:=[(2,aCp)] }
def aEV:List aW:=[aBH]
theorem aRf (k:Nat) (x:Tr×Int):aB2 k x.1 x.2=fx xt aEV wE Tryz.f93 aFI (aA Tryz.f93) k x:=by kernel_rfl
theorem aNn (k:Nat) (x:(List Tr)×Int):qF (k+1) x.1 x.2=iW xt aEV 25 0 aFI (aA Tryz.f93) (iI xt.T Tryz.f93.results wE) 0 aCp k x:=(qF.eq_def ..).trans (by kernel_rfl)
theorem aQM (K:Nat):aE Tryz.prog wE K:=aJ (X:=xt) (g:=wE) (H:=aFI) (env:=aEV) (c:=aA Tryz.f93) aK mixed (fun k=>(aB.cons (aQQ k) aB.nil)) Tryz.func93 (by kernel_rfl) (by kernel_rfl) (by kernel_rfl) (aD.all (aD.zero.succ aCp (by kernel_rfl) (fun _=>rfl) aNn) (by kernel_rfl) (by kernel_rfl)) aRf K
def aBG:aW:={ fid:=59,Γ:=[.tree],args:=[(.var 0)],Δ:=[.bool],res:=(.var 0),f:=fun k x=>xN k x }
def aKK:aG (Bool):={}
def aKO:List aW:=[iG,wE]
theorem aQY (k:Nat) (x:Tr):xN k x=fx xt aKO aBG Tryz.f59 aKK (aA Tryz.f59) k x:=by kernel_rfl
theorem aQB (K:Nat):aE Tryz.prog aBG K:=aJ (X:=xt) (g:=aBG) (H:=aKK) (env:=aKO) (c:=aA Tryz.f59) aK mixed (fun k=>(aB.cons (jS k) (aB.cons (aQM k) aB.nil))) Tryz.func59 (by kernel_rfl) (by kernel_rfl) (by kernel_rfl) (aD.all aD.zero (by kernel_rfl) (by kernel_rfl)) aQY K
def aC0:aW:={ fid:=58,Γ:=[.tree],args:=[(.var 0),(.fn 59 [] [])],Δ:=[(.int .i64)],res:=(.var 0),f:=fun k x=>aKb k x }
def aMD:aG (Int):={}
def aL4:List aW:=[xG,mT,aBG]
theorem aR5 (k:Nat) (x:Tr):aKb k x=fx xt aL4 aC0 Tryz.f58 aMD (aA Tryz.f58) k x:=by kernel_rfl
theorem aR7 (K:Nat):aE Tryz.prog aC0 K:=aJ (X:=xt) (g:=aC0) (H:=aMD) (env:=aL4) (c:=aA Tryz.f58) aK mixed (fun k=>(aB.cons (aG7 k) (aB.cons (aCZ k) (aB.cons (aQB k) aB.nil)))) Tryz.func58 (by kernel_rfl) (by kernel_rfl) (by kernel_rfl) (aD.all aD.zero (by kernel_rfl) (by kernel_rfl)) aR5 K
def aIB:aW:={ fid:=26,Γ:=[.tree],args:=[(.var 0)],Δ:=[(.int .i64)],res:=(.var 0),f:=fun k x=>aED k x }
def aOB:aG (Int):={}
def aNZ:List aW:=[aC0]
theorem aTQ (k:Nat) (x:Tr):aED k x=fx xt aNZ aIB Tryz.f26 aOB (aA Tryz.f26) k x:=by kernel_rfl
theorem aUg (K:Nat):aE Tryz.prog aIB K:=aJ (X:=xt) (g:=aIB) (H:=aOB) (env:=aNZ) (c:=aA Tryz.f26) aK mixed (fun k=>(aB.cons (aR7 k) aB.nil)) Tryz.func26 (by kernel_rfl) (by kernel_rfl) (by kernel_rfl) (aD.all aD.zero (by kernel_rfl) (by kernel_rfl)) aTQ K
def aAg:aW:={ fid:=58,Γ:=[.tree],args:=[(.var 0),(.fn 113 [] [])],Δ:=[(.int .i64)],res:=(.var 0),f:=fun k x=>aHa k x }
def aI9:aG (Int):={}
def aI4:List aW:=[xG,mT,jU]
theorem aPD (k:Nat) (x:Tr):aHa k x=fx xt aI4 aAg Tryz.f58 aI9 (aA Tryz.f58) k x:=by kernel_rfl
theorem aPV (K:Nat):aE Tryz.prog aAg K:=aJ (X:=xt) (g:=aAg) (H:=aI9) (env:=aI4) (c:=aA Tryz.f58) aK mixed (fun k=>(aB.cons (aG7 k) (aB.cons (aCZ k) (aB.cons (aAc k) aB.nil)))) Tryz.func58 (by kernel_rfl) (by kernel_rfl) (by kernel_rfl) (aD.all aD.zero (by kernel_rfl) (by kernel_rfl)) aPD K
def aEr:aW:={ fid:=133,Γ:=[.tree],args:=[(.var 0)],Δ:=[(.int .i64)],res:=(.var 0),f:=fun k x=>aIo k x }
def aOR:aG (Int):={}
def aNU:List aW:=[aAg]
theorem aT7 (k:Nat) (x:Tr):aIo k x=fx xt aNU aEr Tryz.f133 aOR (aA Tryz.f133) k x:=by kernel_rfl
theorem aTU (K:Nat):aE Tryz.prog aEr K:=aJ (X:=xt) (g:=aEr) (H:=aOR) (env:=aNU) (c:=aA Tryz.f133) aK mixed (fun k=>(aB.cons (aPV k) aB.nil)) Tryz.func133 (by kernel_rfl) (by kernel_rfl) (by kernel_rfl) (aD.all aD.zero (by kernel_rfl) (by kernel_rfl)) aT7 K
def aCV:aW:={ fid:=157,Γ:=[.bool,.str],args:=[(.var 0),(.var 1)],Δ:=[.str],res:=(.var 0),f:=fun k x=>aAN k x.1 x.2 }
def aL6:aG ((List UInt8)):={}
def aMh:List aW:=[]
theorem aTi (k:Nat) (x:Bool×(List UInt8)):aAN k x.1 x.2=fx xt aMh aCV Tryz.f157 aL6 (aA Tryz.f157) k x:=by kernel_rfl
theorem aSN (K:Nat):aE Tryz.prog aCV K:=aJ (X:=xt) (g:=aCV) (H:=aL6) (env:=aMh) (c:=aA Tryz.f157) aK mixed (fun k=>aB.nil) Tryz.func157 (by kernel_rfl) (by kernel_rfl) (by kernel_rfl) (aD.all aD.zero (by kernel_rfl) (by kernel_rfl)) aTi K
def vR:aW:={ fid:=95,Γ:=[(.list false .str),.str],args:=[(.var 0),(.var 1)],Δ:=[.str],res:=(.var 0),f:=fun k x=>strings_Join k x.1 x.2 }
def aXg:Shelf.Ren:=⟨fun n=>match n with | 156=>95 | 165=>132 | 166=>27 | 169=>30 | 240=>60 | 241=>156 | 276=>94 | 277=>177 | _=>0,fun n=>match n with | 0=>0 | 3=>3 | 4=>4 | 5=>5 | 9=>9 | 20=>20 | 31=>107 | 37=>55 | 70=>54 | 72=>57 | 75=>62 | 76=>63 | 80=>67 | 127=>96 | 164=>114 | _=>0,fun n=>n⟩
theorem aWS:Lays.n156 Tryz.prog aXg:=by
 constructor <;> first | kernel_rfl | (intro w; kernel_rfl)
theorem aXN:Builder.Extra Tryz.prog aXg:=by
 refine { toX72:=?_,t5:=?_,a5:=?_,z5:=?_,v5:=?_,infoByte:=?_,cellsByte:=?_,sizeByte:=?_,neB5:=?_ } <;> first | kernel_rfl | (intro w; kernel_rfl) | decide | (constructor <;> kernel_rfl)
theorem aAj (K:Nat):aE Tryz.prog vR K:=aYA (f:=strings_Join) ⟨_,Tryz.func95,by kernel_rfl,by kernel_rfl⟩ (fun l sep y h=>by
  unfold strings_Join at h
  split at h
  ·rename_i hb; cases h; exact ⟨rfl,hb.1,hb.2⟩
  ·cases h) (fun a c sep w=>Any.strings_Join_none aWS aXN a c sep w) (fun bk o c xs sep w h1 h2 h3 h4 h5=>Any.strings_Join aWS aXN bk o c xs sep w h1 h2 h3 h4 h5)

def rC:aW:={ fid:=134,Γ:=[.tree,(.int .i64)],args:=[(.var 0),(.var 1)],Δ:=[.str],res:=(.var 0),f:=fun k x=>eZ k x.1 x.2 }
def aDz:LH ((List UInt8)):={ Γ:=[.tree,(.list false .str),(.list false .tree),(.int .i64)],live:=[(0,(.var 0)),(5,(.row 0 1)),(65,(.var 2)),(66,(.len 2)),(67,(.var 3))],sto:=[(0,(.list 9 1 none))],nk:=1,ad:=[.t 5 9 .str],F:=fun k x=>mZ k x.1 x.2.1 x.2.2.1 x.2.2.2 }
def aG0:aG ((List UInt8)):={ ord:=[(3,[.l 0,.l 1,.l 2,.l 3,.l 4,.l 5,.l 6,.l 7,.l 10,.l 11,.l 12,.l 13,.l 14,.l 15,.h 8,.l 9,.h 16,.l 17,.h 18,.l 19]),(5,[.l 0,.l 1,.l 2,.l 3,.l 4,.l 5,.l 6,.l 7,.l 10,.l 11,.l 12,.l 13,.l 14,.l 15,.h 8,.l 9,.h 16,.l 17,.h 18,.l 19]),(17,[.l 0,.l 1,.l 2,.l 3,.l 4,.l 5,.l 6,.l 7,.l 8,.l 9,.l 10,.l 11,.h 12,.l 13,.l 14,.h 15,.m 16]),(19,[.l 0,.l 1,.l 2,.l 3,.l 4,.l 5,.l 6,.h 7,.l 8,.l 9,.l 10])],loops:=[(15,aDz)] }
def aGS:List aW:=[rC,aCV,vR]
theorem aSl (k:Nat) (x:Tr×Int):eZ (k+1) x.1 x.2=fx xt aGS rC Tryz.f134 aG0 (aA Tryz.f134) k x:=(eZ.eq_def ..).trans (by kernel_rfl)
theorem aN8 (k:Nat) (x:Tr×(List (List UInt8))×(List Tr)×Int):mZ (k+1) x.1 x.2.1 x.2.2.1 x.2.2.2=iW xt aGS 102 0 aG0 (aA Tryz.f134) (iI xt.T Tryz.f134.results rC) 0 aDz k x:=(mZ.eq_def ..).trans (by kernel_rfl)
theorem aQ5 (K:Nat):aE Tryz.prog rC K:=by
 induction K using Nat.strongRecOn with
 | ind K ih=>exact bC (X:=xt) (g:=rC) (H:=aG0) (env:=aGS) (c:=aA Tryz.f134) aK mixed (fun k hk=>(aB.cons (ih k hk) (aB.cons (aSN k) (aB.cons (aAj k) aB.nil)))) Tryz.func134 (by kernel_rfl) (by kernel_rfl) (by kernel_rfl) (aD.all (aD.zero.succ aDz (by kernel_rfl) (fun _=>rfl) aN8) (by kernel_rfl) (by kernel_rfl)) (fun _=>rfl) aSl
theorem aRL (K:Nat):aE Tryz.prog rC K:=(aQ5 K)
def zZ:aW:={ fid:=96,Γ:=[.tree],args:=[(.var 0)],Δ:=[.str,(.int .i64)],res:=(.tup [(.var 0),(.var 1)]),f:=fun k x=>aAQ k x }
def aMl:aG ((List UInt8)×Int):={}
def aMm:List aW:=[aEr,rC]
theorem aSx (k:Nat) (x:Tr):aAQ k x=fx xt aMm zZ Tryz.f96 aMl (aA Tryz.f96) k x:=by kernel_rfl
theorem aKt (K:Nat):aE Tryz.prog zZ K:=aJ (X:=xt) (g:=zZ) (H:=aMl) (env:=aMm) (c:=aA Tryz.f96) aK mixed (fun k=>(aB.cons (aTU k) (aB.cons (aRL k) aB.nil))) Tryz.func96 (by kernel_rfl) (by kernel_rfl) (by kernel_rfl) (aD.all aD.zero (by kernel_rfl) (by kernel_rfl)) aSx K
def wX:aW:={ fid:=62,Γ:=[.tree],args:=[(.var 0)],Δ:=[.str],res:=(.var 0),f:=fun k x=>jP k x }
def aQu:aG ((List UInt8)):={}
def aQr:List aW:=[zZ]
theorem aVT (k:Nat) (x:Tr):jP k x=fx xt aQr wX Tryz.f62 aQu (aA Tryz.f62) k x:=by kernel_rfl
theorem aEl (K:Nat):aE Tryz.prog wX K:=aJ (X:=xt) (g:=wX) (H:=aQu) (env:=aQr) (c:=aA Tryz.f62) aK mixed (fun k=>(aB.cons (aKt k) aB.nil)) Tryz.func62 (by kernel_rfl) (by kernel_rfl) (by kernel_rfl) (aD.all aD.zero (by kernel_rfl) (by kernel_rfl)) aVT K
def aAm:aW:={ fid:=58,Γ:=[.tree],args:=[(.var 0),(.fn 140 [] [])],Δ:=[(.int .i64)],res:=(.var 0),f:=fun k x=>aG2 k x }
def aIO:aG (Int):={}
def aI7:List aW:=[xG,mT,jY]
theorem aPr (k:Nat) (x:Tr):aG2 k x=fx xt aI7 aAm Tryz.f58 aIO (aA Tryz.f58) k x:=by kernel_rfl
theorem aPU (K:Nat):aE Tryz.prog aAm K:=aJ (X:=xt) (g:=aAm) (H:=aIO) (env:=aI7) (c:=aA Tryz.f58) aK mixed (fun k=>(aB.cons (aG7 k) (aB.cons (aCZ k) (aB.cons (aQR k) aB.nil)))) Tryz.func58 (by kernel_rfl) (by kernel_rfl) (by kernel_rfl) (aD.all aD.zero (by kernel_rfl) (by kernel_rfl)) aPr K
def aEo:aW:={ fid:=135,Γ:=[.tree],args:=[(.var 0)],Δ:=[(.int .i64)],res:=(.var 0),f:=fun k x=>aH1 k x }
def aOz:aG (Int):={}
def aOG:List aW:=[aAm]
theorem aTV (k:Nat) (x:Tr):aH1 k x=fx xt aOG aEo Tryz.f135 aOz (aA Tryz.f135) k x:=by kernel_rfl
theorem aUn (K:Nat):aE Tryz.prog aEo K:=aJ (X:=xt) (g:=aEo) (H:=aOz) (env:=aOG) (c:=aA Tryz.f135) aK mixed (fun k=>(aB.cons (aPU k) aB.nil)) Tryz.func135 (by kernel_rfl) (by kernel_rfl) (by kernel_rfl) (aD.all aD.zero (by kernel_rfl) (by kernel_rfl)) aTV K
def zI:aW:={ fid:=159,Γ:=[.bool,.str],args:=[(.var 0),(.var 1)],Δ:=[.str],res:=(.var 0),f:=fun k x=>nB k x.1 x.2 }
def aMr:aG ((List UInt8)):={}
def aMw:List aW:=[]
theorem aTf (k:Nat) (x:Bool×(List UInt8)):nB k x.1 x.2=fx xt aMw zI Tryz.f159 aMr (aA Tryz.f159) k x:=by kernel_rfl
theorem aKv (K:Nat):aE Tryz.prog zI K:=aJ (X:=xt) (g:=zI) (H:=aMr) (env:=aMw) (c:=aA Tryz.f159) aK mixed (fun k=>aB.nil) Tryz.func159 (by kernel_rfl) (by kernel_rfl) (by kernel_rfl) (aD.all aD.zero (by kernel_rfl) (by kernel_rfl)) aTf K
def aAl:aW:={ fid:=161,Γ:=[.tree],args:=[(.var 0)],Δ:=[.str],res:=(.var 0),f:=fun k x=>mP k x }
def aI0:aG ((List UInt8)):={}
def aIV:List aW:=[zZ]
theorem aO1 (k:Nat) (x:Tr):mP k x=fx xt aIV aAl Tryz.f161 aI0 (aA Tryz.f161) k x:=by kernel_rfl
theorem aPs (K:Nat):aE Tryz.prog aAl K:=aJ (X:=xt) (g:=aAl) (H:=aI0) (env:=aIV) (c:=aA Tryz.f161) aK mixed (fun k=>(aB.cons (aKt k) aB.nil)) Tryz.func161 (by kernel_rfl) (by kernel_rfl) (by kernel_rfl) (aD.all aD.zero (by kernel_rfl) (by kernel_rfl)) aO1 K
def qR:aW:={ fid:=162,Γ:=[(.list false .tree)],args:=[(.var 0)],Δ:=[.str],res:=(.var 0),f:=fun k x=>nS k x }
def uO:aW:={ fid:=160,Γ:=[.tree,(.int .i64)],args:=[(.var 0),(.var 1)],Δ:=[.str],res:=(.var 0),f:=fun k x=>zY k x.1 x.2 }
def aAb:aW:={ fid:=158,Γ:=[(.int .i64),(.int .i64),.tree],args:=[(.var 0),(.var 1),(.ptr [(.var 2)])],Δ:=[.str],res:=(.var 0),f:=fun k x=>dK k x.1 x.2.1 x.2.2 }
def pA:aW:={ fid:=136,Γ:=[.tree,(.int .i64)],args:=[(.var 0),(.var 1)],Δ:=[.str],res:=(.var 0),f:=fun k x=>cG k x.1 x.2 }
def zB:LH ((List UInt8)):={ Γ:=[(.list false .str),(.list false .tree),(.int .i64)],live:=[(3,(.row 0 0)),(6,(.var 1)),(7,(.len 1)),(8,(.var 2))],sto:=[(0,(.list 9 0 none))],nk:=1,ad:=[.t 3 9 .str],F:=fun k x=>fX k x.1 x.2.1 x.2.2 }
def aBA:aG ((List UInt8)):={ ord:=[(5,[.l 0,.l 1,.l 2,.l 3,.l 4,.l 5,.l 6,.l 7,.l 8,.l 9,.l 10,.l 11,.l 12,.l 13,.l 14,.l 15,.l 16,.l 17,.h 18,.l 19,.l 20,.h 21,.m 22])],loops:=[(3,zB)] }
def aBm:List aW:=[pA,vR]
theorem aNd (k:Nat) (x:(List Tr)):nS (k+1) x=fx xt aBm qR Tryz.f162 aBA (aA Tryz.f162) k x:=(nS.eq_def ..).trans (by kernel_rfl)
theorem aJe (k:Nat) (x:(List (List UInt8))×(List Tr)×Int):fX (k+1) x.1 x.2.1 x.2.2=iW xt aBm 38 0 aBA (aA Tryz.f162) (iI xt.T Tryz.f162.results qR) 0 zB k x:=(fX.eq_def ..).trans (by kernel_rfl)
def aBP:LH ((List UInt8)):={ Γ:=[.tree,(.int .i64),(.int .i64),(.int .i64),.str],live:=[(0,(.var 0)),(1,(.var 1)),(5,(.var 2)),(6,(.var 3)),(7,(.var 4))],F:=fun k x=>gJ k x.1 x.2.1 x.2.2.1 x.2.2.2.1 x.2.2.2.2 }
def aDx:aG ((List UInt8)):={ ord:=[(12,[.l 0,.l 1,.l 2,.l 3,.l 4,.l 5,.l 6,.l 7,.l 8,.l 9,.l 11,.l 13,.l 14,.l 15,.l 16,.l 17,.l 18,.l 19,.l 20,.h 10,.l 12,.h 21,.l 22,.h 23,.l 24])],cuts:=[(12,aBP)] }
def aDO:List aW:=[pA,zI]
theorem aPl (k:Nat) (x:Tr×Int):zY (k+1) x.1 x.2=fx xt aDO uO Tryz.f160 aDx (aA Tryz.f160) k x:=(zY.eq_def ..).trans (by kernel_rfl)
theorem aLc (k:Nat) (x:Tr×Int×Int×Int×(List UInt8)):gJ (k+1) x.1 x.2.1 x.2.2.1 x.2.2.2.1 x.2.2.2.2=iW xt aDO 44 0 aDx (aA Tryz.f160) (iI xt.T Tryz.f160.results uO) 0 aBP k x:=(gJ.eq_def ..).trans (by kernel_rfl)
def aIX:aG ((List UInt8)):={}
def aIQ:List aW:=[pA]
theorem aPt (k:Nat) (x:Int×Int×Tr):dK (k+1) x.1 x.2.1 x.2.2=fx xt aIQ aAb Tryz.f158 aIX (aA Tryz.f158) k x:=(dK.eq_def ..).trans (by kernel_rfl)
def aMt:aG ((List UInt8)):={ ord:=[(24,[.l 0,.l 1,.l 2,.l 3,.l 4,.l 5,.l 6,.l 7,.l 8,.l 9,.l 10,.l 11,.l 12,.l 13,.l 17,.h 14,.l 15,.l 16,.h 18,.l 19,.h 20,.l 21]),(26,[.l 0,.l 1,.l 2,.l 3,.l 4,.l 5,.l 6,.l 7,.l 8,.l 12,.h 9,.l 10,.l 11,.h 13,.l 14,.l 15,.h 16,.l 17]),(30,[.l 0,.l 1,.l 2,.l 6,.l 7,.l 8,.l 9,.l 10,.h 3,.l 4,.l 5,.h 11,.l 12,.h 13,.l 14]),(31,[.l 0,.l 1,.l 2,.l 6,.l 7,.l 8,.l 9,.l 10,.l 11,.l 15,.l 16,.l 17,.l 18,.l 19,.h 3,.l 4,.l 5,.h 12,.l 13,.l 14,.h 20,.l 21,.h 22,.l 23])] }
def aMq:List aW:=[pP,aAb,zI,uO,aAl,qR]
theorem aS8 (k:Nat) (x:Tr×Int):cG (k+1) x.1 x.2=fx xt aMq pA Tryz.f136 aMt (aA Tryz.f136) k x:=(cG.eq_def ..).trans (by kernel_rfl)
theorem aLn (K:Nat):aE Tryz.prog qR K∧aE Tryz.prog uO K∧aE Tryz.prog aAb K∧aE Tryz.prog pA K:=by
 induction K using Nat.strongRecOn with
 | ind K ih=>exact ⟨bC (X:=xt) (g:=qR) (H:=aBA) (env:=aBm) (c:=aA Tryz.f162) aK mixed (fun k hk=>(aB.cons (ih k hk).2.2.2 (aB.cons (aAj k) aB.nil))) Tryz.func162 (by kernel_rfl) (by kernel_rfl) (by kernel_rfl) (aD.all (aD.zero.succ zB (by kernel_rfl) (fun _=>rfl) aJe) (by kernel_rfl) (by kernel_rfl)) (fun _=>rfl) aNd,bC (X:=xt) (g:=uO) (H:=aDx) (env:=aDO) (c:=aA Tryz.f160) aK mixed (fun k hk=>(aB.cons (ih k hk).2.2.2 (aB.cons (aKv k) aB.nil))) Tryz.func160 (by kernel_rfl) (by kernel_rfl) (by kernel_rfl) (aD.all (aD.zero.succ aBP (by kernel_rfl) (fun _=>rfl) aLc) (by kernel_rfl) (by kernel_rfl)) (fun _=>rfl) aPl,bC (X:=xt) (g:=aAb) (H:=aIX) (env:=aIQ) (c:=aA Tryz.f158) aK mixed (fun k hk=>(aB.cons (ih k hk).2.2.2 aB.nil)) Tryz.func158 (by kernel_rfl) (by kernel_rfl) (by kernel_rfl) (aD.all aD.zero (by kernel_rfl) (by kernel_rfl)) (fun _=>rfl) aPt,bC (X:=xt) (g:=pA) (H:=aMt) (env:=aMq) (c:=aA Tryz.f136) aK mixed (fun k hk=>(aB.cons (aIZ k) (aB.cons (ih k hk).2.2.1 (aB.cons (aKv k) (aB.cons (ih k hk).2.1 (aB.cons (aPs k) (aB.cons (ih k hk).1 aB.nil))))))) Tryz.func136 (by kernel_rfl) (by kernel_rfl) (by kernel_rfl) (aD.all aD.zero (by kernel_rfl) (by kernel_rfl)) (fun _=>rfl) aS8⟩
theorem aSV (K:Nat):aE Tryz.prog pA K:=(aLn K).2.2.2
end Go.Proofs.YtjhfgiieicloeaaGreatDoor

